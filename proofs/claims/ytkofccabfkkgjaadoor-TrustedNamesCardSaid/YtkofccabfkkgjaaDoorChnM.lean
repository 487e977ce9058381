/-
  What is proved: plain laws of a policy's directives: those ahead stay, what a first one of a name counts for. No condition.
-/
import Derived.Test.YtkofccabfkkgjaaDoorChnL
namespace Go.Proofs.YtkofccabfkkgjaaDoor
open Go.RowKit

theorem addD_pre (ds : List Dir) (p : List UInt8) : ∃ more, addD ds p = ds ++ more := by
  unfold addD
  split
  · exact ⟨[], by simp⟩
  · split
    · exact ⟨[], by simp⟩
    · exact ⟨_, rfl⟩
theorem fold_pre : ∀ (ps : List (List UInt8)) (ds : List Dir), ∃ more, ps.foldl addD ds = ds ++ more
  | [], ds => ⟨[], by simp⟩
  | p :: ps, ds => by
    obtain ⟨m1, h1⟩ := addD_pre ds p
    obtain ⟨m2, h2⟩ := fold_pre ps (addD ds p)
    exact ⟨m1 ++ m2, by rw [List.foldl_cons, h2, h1, List.append_assoc]⟩
theorem one_cons {a : List UInt8} (ha : (59 : UInt8) ∉ a) (b : List UInt8) : oneL (a ++ 59 :: b) = (splitL 59 b).foldl addD (addD [] a) := by
  unfold oneL splitL
  rw [splitG_hit a b [] ha]
  rfl
theorem find_app {ds : List Dir} {n : List UInt8} {d : Dir} (h : findD ds n = some d) (more : List Dir) : findD (ds ++ more) n = some d := by
  unfold findD at h ⊢
  rw [List.find?_append, h]
  rfl
theorem findC_first {ds : List Dir} {k : Int} {n : List UInt8} {d : Dir} {t : List (List UInt8)} (hn : effL k = n) (hne : n ≠ []) (hc : chainL n = n :: t) (h : findD ds n = some d) : findC ds k = some d := by
  unfold findC
  rw [hn, if_neg hne, hc, List.findSome?_cons, h]
theorem sixteen {P : Int → Prop} [∀ k, Decidable (P k)] (h : ∀ k : Fin 16, P ((k.val : Int) + 1)) {k : Int} (h1 : 1 ≤ k) (h2 : k ≤ 16) : P k := by
  obtain ⟨n, hn⟩ := Int.eq_ofNat_of_zero_le (by omega : 0 ≤ k - 1)
  have e : k = (n : Int) + 1 := by omega
  rw [e]
  exact h ⟨n, by omega⟩
theorem first_name {k : Int} (h1 : 1 ≤ k) (h2 : k ≤ 16) (s : List UInt8) : nameC (effL k ++ ([32, 120, 59] ++ s)) k = effL k := by
  have e1 : effL k ++ ([32, 120, 59] ++ s) = (effL k ++ [32, 120]) ++ 59 :: s := by simp
  have f1 : (59 : UInt8) ∉ effL k ++ [32, 120] := sixteen (P := fun k => (59 : UInt8) ∉ effL k ++ [32, 120]) (by decide) h1 h2
  have f2 : (findD (addD [] (effL k ++ [32, 120])) (effL k)).map (·.name) = some (effL k) := sixteen (P := fun k => (findD (addD [] (effL k ++ [32, 120])) (effL k)).map (·.name) = some (effL k)) (by decide +kernel) h1 h2
  have f3 : effL k ≠ [] := sixteen (P := fun k => effL k ≠ []) (by decide) h1 h2
  have f4 : (chainL (effL k)).head? = some (effL k) := sixteen (P := fun k => (chainL (effL k)).head? = some (effL k)) (by decide) h1 h2
  obtain ⟨d, hd, hdn⟩ := Option.map_eq_some_iff.1 f2
  obtain ⟨t, ht⟩ : ∃ t, chainL (effL k) = effL k :: t := by
    cases hc : chainL (effL k) with
    | nil => rw [hc] at f4; cases f4
    | cons x t => rw [hc] at f4; cases f4; exact ⟨t, rfl⟩
  rw [e1]
  unfold nameC
  rw [one_cons f1]
  obtain ⟨more, hm⟩ := fold_pre (splitL 59 s) (addD [] (effL k ++ [32, 120]))
  rw [hm, findC_first rfl f3 ht (find_app hd more)]
  exact hdn
def lastC (k : Int) : List UInt8 := if k = 15 ∨ k = 16 then [] else [100, 101, 102, 97, 117, 108, 116, 45, 115, 114, 99]
theorem last_name {k : Int} (h1 : 1 ≤ k) (h2 : k ≤ 16) : nameC ([100, 101, 102, 97, 117, 108, 116, 45, 115, 114, 99, 32, 121, 59, 32, 120, 45] ++ effL k) k = lastC k :=
  sixteen (P := fun k => nameC ([100, 101, 102, 97, 117, 108, 116, 45, 115, 114, 99, 32, 121, 59, 32, 120, 45] ++ effL k) k = lastC k) (by decide +kernel) h1 h2
theorem eff_ne {k : Int} (h1 : 1 ≤ k) (h2 : k ≤ 16) : (effL k == []) = false := sixteen (P := fun k => (effL k == []) = false) (by decide) h1 h2
end Go.Proofs.YtkofccabfkkgjaaDoor
