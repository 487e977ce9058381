/-
  What is proved: plain laws of sizes: of the directives of a text, of their text. No condition.
-/
import Derived.Test.YtghafpkkmeibgaaDoorTxtX
namespace Go.Proofs.YtghafpkkmeibgaaDoor
open Go.RowKit

theorem one_fold_mem (P : Dir → Prop) : ∀ (ps : List (List UInt8)) (out : List Dir), (∀ p ∈ ps, ∀ x xs, fieldsL p = x :: xs → P ⟨lowL x, xs⟩) → (∀ d ∈ out, P d) → ∀ d ∈ ps.foldl addD out, P d
  | [], out, _, h => h
  | p :: ps, out, hp, h => by
    refine one_fold_mem P ps (addD out p) (fun q hq => hp q (by simp [hq])) ?_
    unfold addD
    split
    · exact h
    · rename_i x xs hf
      split
      · exact h
      · intro d hd
        rcases List.mem_append.1 hd with hd | hd
        · exact h d hd
        · simp only [List.mem_singleton] at hd
          subst hd
          exact hp p (by simp) x xs hf
theorem lowL_size (s : List UInt8) : (lowL s).length = s.length := by simp [lowL]
theorem one_sizes (s : List UInt8) : ∀ d ∈ oneL s, d.name.length ≤ s.length ∧ d.vals.length ≤ s.length ∧ ∀ v ∈ d.vals, v.length ≤ s.length := by
  refine one_fold_mem _ _ _ (fun p hp x xs hf => ?_) (by simp)
  have h1 := split_each 59 s p hp
  have h2 := fields_count p
  have h3 := fields_each p
  rw [hf] at h2 h3
  simp only [List.length_cons] at h2
  refine ⟨?_, by show xs.length ≤ _; omega, fun v hv => ?_⟩
  · show (lowL x).length ≤ _
    rw [lowL_size]
    exact Nat.le_trans (h3 x (by simp)) h1
  · exact Nat.le_trans (h3 v (by simp [hv])) h1
theorem one_ok {s : List UInt8} (h : s.length ≤ 4900) : TextOk (oneL s) := by
  have h1 := one_len s
  refine ⟨by omega, fun d hd => ?_⟩
  obtain ⟨h2, h3, h4⟩ := one_sizes s d hd
  exact ⟨by omega, by omega, fun v hv => by have := h4 v hv; omega⟩
theorem flat_size : ∀ l : List (List UInt8), ((l.map fun v => 32 :: v).flatten).length = Lib.lens l + l.length
  | [] => rfl
  | x :: l => by
    have := flat_size l
    simp only [List.map_cons, List.flatten_cons, List.length_append, List.length_cons, Lib.lens, List.sum_cons] at this ⊢
    omega
theorem dirText_size (d : Dir) : (dirText d).length = d.name.length + Lib.lens d.vals + d.vals.length := by
  rw [dirText_eq, List.length_append, flat_size]
  omega
def wtD (ds : List Dir) : Nat := (ds.map fun d => (dirText d).length + 2).sum
theorem textL_wt (ds : List Dir) : (textL ds).length ≤ wtD ds := by
  cases ds with
  | nil => simp [textL, Lib.join_nil]
  | cons d ds =>
    rw [textL_cons, List.length_append]
    have : ∀ l : List Dir, ((l.map fun e => 59 :: 32 :: dirText e).flatten).length = wtD l := by
      intro l
      induction l with
      | nil => rfl
      | cons e l ih =>
        unfold wtD at ih ⊢
        simp only [List.map_cons, List.flatten_cons, List.length_append, List.length_cons, List.sum_cons, ih]
    rw [this]
    unfold wtD
    simp only [List.map_cons, List.sum_cons]
    omega
theorem addD_wt (ds : List Dir) (p : List UInt8) : wtD (addD ds p) ≤ wtD ds + 2 * p.length + 3 := by
  have h1 := fields_total p []
  have h2 := fields_count p
  unfold addD
  split
  · omega
  · rename_i x xs hf
    split
    · omega
    · unfold fieldsL at hf h2
      rw [hf] at h1 h2
      simp only [List.map_cons, List.sum_cons, List.length_cons, List.length_nil] at h1 h2
      unfold wtD
      simp only [List.map_append, List.sum_append, List.map_cons, List.map_nil, List.sum_cons, List.sum_nil, dirText_size, lowL_size]
      have e : Lib.lens xs = (xs.map List.length).sum := rfl
      rw [e]
      omega
theorem fold_wt : ∀ (ps : List (List UInt8)) (ds : List Dir), wtD (ps.foldl addD ds) ≤ wtD ds + 2 * Lib.lens ps + 3 * ps.length
  | [], ds => by simp [Lib.lens]
  | p :: ps, ds => by
    have h1 := fold_wt ps (addD ds p)
    have h2 := addD_wt ds p
    simp only [List.foldl_cons, List.length_cons, Lib.lens, List.map_cons, List.sum_cons] at h1 ⊢
    omega
theorem lens_splitG (c : UInt8) : ∀ (l p : List UInt8), Lib.lens (splitG c p l) ≤ p.length + l.length
  | [], p => by simp [splitG, Lib.lens]
  | d :: t, p => by
    unfold splitG
    split
    · have := lens_splitG c t []
      simp only [Lib.lens, List.map_cons, List.sum_cons, List.length_cons, List.length_nil] at this ⊢
      omega
    · have := lens_splitG c t (p ++ [d])
      simp only [Lib.lens, List.length_append, List.length_cons, List.length_nil] at this ⊢
      omega
theorem text_size (s : List UInt8) : (textL (oneL s)).length ≤ 5 * s.length + 3 := by
  have h1 := textL_wt (oneL s)
  have h2 := fold_wt (splitL 59 s) []
  have h3 := lens_splitG 59 s []
  have h4 := split_count 59 s
  have e : wtD [] = 0 := rfl
  unfold oneL at h1 ⊢
  unfold splitL at h1 h2 h4 ⊢
  simp only [List.length_nil] at h3
  omega
end Go.Proofs.YtghafpkkmeibgaaDoor
