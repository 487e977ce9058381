/-
  What is proved: the law's own helpers: a policy's directive by name, the chapter's policies, whether a policy is too great: contracts. Condition: what the package's variables hold.
-/
import Derived.Test.YtkofccabfkkgjaaDoorWrd
import Derived.Test.YtkofccabfkkgjaaDoorOne
import Derived.Test.YtkofccabfkkgjaaDoorChnH
namespace Go.Proofs.YtkofccabfkkgjaaDoor
open Go.RowKit

theorem addD_each {ds : List Dir} {p : List UInt8} {n : Nat} (h : ∀ d ∈ ds, d.vals.length ≤ n) (hp : p.length ≤ n) : ∀ d ∈ addD ds p, d.vals.length ≤ n := by
  intro d hd
  unfold addD at hd
  have hc := fields_count p
  split at hd
  · exact h d hd
  · rename_i w ws hf
    rw [hf] at hc
    simp at hc
    split at hd
    · exact h d hd
    · rcases List.mem_append.1 hd with hd | hd
      · exact h d hd
      · simp at hd
        subst hd
        show ws.length ≤ n
        omega
theorem fold_each {n : Nat} : ∀ (ps : List (List UInt8)) (ds : List Dir), (∀ d ∈ ds, d.vals.length ≤ n) → (∀ p ∈ ps, p.length ≤ n) → ∀ d ∈ ps.foldl addD ds, d.vals.length ≤ n
  | [], ds, h, _ => h
  | p :: ps, ds, h, hp => fold_each ps (addD ds p) (addD_each h (hp p (by simp))) (fun q hq => hp q (by simp [hq]))
theorem one_small {l : List UInt8} (hl : l.length < 100000) : SmallD (oneL l) := by
  refine ⟨?_, fun d hd => ?_⟩
  · have := one_len l
    omega
  · have := fold_each (splitL 59 l) [] (n := l.length) (by simp) (split_each 59 l) d hd
    omega
def nameC (l : List UInt8) (k : Int) : List UInt8 := match findC (oneL l) k with | none => [] | some d => d.name
set_option maxHeartbeats 4000000 in
theorem named28_any (l : List UInt8) (k : Int) (w : World) (G : ChG w) (hl : l.length < 100000) :
    Calls Tryd.prog 21 #[.string ⟨⟨l⟩⟩, .int .i64 k] w fun e w' => e = .returned (.string ⟨⟨nameC l k⟩⟩) ∧ Ext w w' := by
  have hs := one_small hl
  have ho := one_len l
  have c1 := one_any l w G.max hl
  have HN : Hid (nameC l k = match findC (oneL l) k with | none => [] | some d => d.name) := Lib.hid rfl
  cases hf : findC (oneL l) k with
  | none =>
    rw [hf] at HN
    have c2 := fun v W G H => chainsFind_any v false (oneL l) k W G H hs
    rw [hf] at c2
    clear hf
    go_enter Tryd.func21, Tryd.ntmps21
    go_wp2_with (first
      | (go_at_call 35; refine c1.mono ?_; rintro e w1 ⟨v, rfl, hown, hx1⟩; obtain ⟨av, cv, rfl⟩ := hown.len)
      | (go_at_call 18; refine (c2 _ _ (G.ext hx1) (hown.dirs (by unfold maxLen; omega))).mono ?_; rintro e w2 ⟨x, rfl, hd, hx2⟩; have hd : x = _ := hd; subst hd))
    go_ret
    exact ⟨ret_inj (str_eq HN.out.symm), (Ext.trans hx1 hx2).alloc (Ext.trans hx1 hx2).size _⟩
  | some d =>
    rw [hf] at HN
    have c2 := fun v W G H => chainsFind_any v false (oneL l) k W G H hs
    rw [hf] at c2
    clear hf
    go_enter Tryd.func21, Tryd.ntmps21
    go_wp2_with (first
      | (go_at_call 35; refine c1.mono ?_; rintro e w1 ⟨v, rfl, hown, hx1⟩; obtain ⟨av, cv, rfl⟩ := hown.len)
      | (go_at_call 18; refine (c2 _ _ (G.ext hx1) (hown.dirs (by unfold maxLen; omega))).mono ?_; rintro e w2 ⟨x, rfl, hd, hx2⟩; obtain ⟨au, cu, rfl, _⟩ := hd))
    go_ret
    exact ⟨ret_inj (str_eq HN.out.symm), (Ext.trans hx1 hx2).alloc (Ext.trans hx1 hx2).size _⟩
theorem nm1 : nameC [100, 101, 102, 97, 117, 108, 116, 45, 115, 114, 99, 32, 97, 59, 32, 115, 99, 114, 105, 112, 116, 45, 115, 114, 99, 32, 98] 2 = [115, 99, 114, 105, 112, 116, 45, 115, 114, 99] := by decide +kernel
theorem nm2 : nameC [100, 101, 102, 97, 117, 108, 116, 45, 115, 114, 99, 32, 97, 59, 32, 115, 99, 114, 105, 112, 116, 45, 115, 114, 99, 32, 98] 8 = [100, 101, 102, 97, 117, 108, 116, 45, 115, 114, 99] := by decide +kernel
theorem nm3 : nameC [100, 101, 102, 97, 117, 108, 116, 45, 115, 114, 99, 32, 97, 59, 32, 115, 99, 114, 105, 112, 116, 45, 115, 114, 99, 32, 98] 15 = [] := by decide +kernel
theorem nm4 : nameC [99, 104, 105, 108, 100, 45, 115, 114, 99, 32, 99] 11 = [99, 104, 105, 108, 100, 45, 115, 114, 99] := by decide +kernel
theorem nm5 : nameC [99, 104, 105, 108, 100, 45, 115, 114, 99, 32, 99] 1 = [] := by decide +kernel
theorem falls_any (w : World) (G : ChG w) : Calls Tryd.prog 11 #[] w fun e w' => e = .returned (.bool true) ∧ Ext w w' := by
  have d1 := fun W G => named28_any [100, 101, 102, 97, 117, 108, 116, 45, 115, 114, 99, 32, 97, 59, 32, 115, 99, 114, 105, 112, 116, 45, 115, 114, 99, 32, 98] 2 W G (by decide)
  have d2 := fun W G => named28_any [100, 101, 102, 97, 117, 108, 116, 45, 115, 114, 99, 32, 97, 59, 32, 115, 99, 114, 105, 112, 116, 45, 115, 114, 99, 32, 98] 8 W G (by decide)
  have d3 := fun W G => named28_any [100, 101, 102, 97, 117, 108, 116, 45, 115, 114, 99, 32, 97, 59, 32, 115, 99, 114, 105, 112, 116, 45, 115, 114, 99, 32, 98] 15 W G (by decide)
  have d4 := fun W G => named28_any [99, 104, 105, 108, 100, 45, 115, 114, 99, 32, 99] 11 W G (by decide)
  have d5 := fun W G => named28_any [99, 104, 105, 108, 100, 45, 115, 114, 99, 32, 99] 1 W G (by decide)
  have d6 := fun W => chain_any [119, 111, 114, 107, 101, 114, 45, 115, 114, 99] W
  rw [nm1] at d1
  rw [nm2] at d2
  rw [nm3] at d3
  rw [nm4] at d4
  rw [nm5] at d5
  go_enter Tryd.func11, Tryd.ntmps11
  go_wp2_with fail
  refine (d1 _ G).mono ?_; rintro e w1 ⟨rfl, x1⟩
  go_wp2_with fail
  refine (d2 _ (G.ext x1)).mono ?_; rintro e w2 ⟨rfl, x2⟩
  have y2 := Ext.trans x1 x2
  go_wp2_with fail
  refine (d3 _ (G.ext y2)).mono ?_; rintro e w3 ⟨rfl, x3⟩
  have y3 := Ext.trans y2 x3
  go_wp2_with fail
  refine (d4 _ (G.ext y3)).mono ?_; rintro e w4 ⟨rfl, x4⟩
  have y4 := Ext.trans y3 x4
  go_wp2_with fail
  refine (d5 _ (G.ext y4)).mono ?_; rintro e w5 ⟨rfl, x5⟩
  have y5 := Ext.trans y4 x5
  go_wp2_with fail
  refine (d6 _).mono ?_; rintro e w6 ⟨v, rfl, h6, x6⟩
  obtain ⟨a6, c6, rfl⟩ := own_len h6 4 (by decide)
  go_wp2_with fail
  go_ret
  exact ⟨rfl, Ext.trans y5 x6⟩
end Go.Proofs.YtkofccabfkkgjaaDoor
