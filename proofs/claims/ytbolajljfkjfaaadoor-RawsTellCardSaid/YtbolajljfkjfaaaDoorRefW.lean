/-
  What is proved: plain laws of references: what stands ahead makes no difference; each name is found. No condition.
-/
import Derived.Test.YtbolajljfkjfaaaDoorRefQ
namespace Go.Proofs.YtbolajljfkjfaaaDoor
open Go.RowKit

theorem getD_app (a s : List UInt8) (i : Nat) : (a ++ s).getD (a.length + i) 0 = s.getD i 0 := by
  rw [List.getD_eq_getElem?_getD, List.getD_eq_getElem?_getD, List.getElem?_append_right (by omega)]
  congr 2
  omega
theorem drop_app (a s : List UInt8) (i : Nat) : (a ++ s).drop (a.length + i) = s.drop i := by
  rw [← List.drop_drop, List.drop_left]
theorem shut_app (a s : List UInt8) (attr : Bool) (n : Nat) (h : 0 < n) : shut (a ++ s) attr (a.length + n) = shut s attr n := by
  have e : a.length + n - 1 = a.length + (n - 1) := by omega
  unfold shut
  rw [e, getD_app, getD_app, List.length_append]
  congr 2
  rw [decide_eq_decide]
  omega
/-- What is found at a front, moved on by some bytes. -/
def moved (k : Nat) (r : List UInt8 × Nat × Bool) : List UInt8 × Nat × Bool := if r.2.2 then (r.1, r.2.1 + k, true) else ([], 0, false)
theorem find_ahead (a s : List UInt8) (attr : Bool) : findB (a ++ s) a.length attr = moved a.length (findB s 0 attr) := by
  have hc : (a.length < (a ++ s).length ∧ (a ++ s).getD a.length 0 = 38) ↔ (0 < s.length ∧ s.getD 0 0 = 38) := by
    have h1 := getD_app a s 0
    rw [Nat.add_zero] at h1
    rw [h1, List.length_append]
    constructor <;> rintro ⟨_, h3⟩ <;> exact ⟨by omega, h3⟩
  have d1 : (a ++ s).drop (a.length + 1) = s.drop (0 + 1) := by rw [drop_app, Nat.zero_add]
  have d2 : (a ++ s).drop (a.length + 1 + 1) = s.drop (0 + 1 + 1) := by rw [Nat.add_assoc, drop_app]
  unfold findB
  by_cases h : 0 < s.length ∧ s.getD 0 0 = 38
  · rw [if_pos h, if_pos (hc.2 h), d1, d2]
    by_cases h35 : ([35] : List UInt8).isPrefixOf (s.drop (0 + 1)) = true
    · rw [if_pos h35, if_pos h35]
      by_cases h0 : (numB (s.drop (0 + 1 + 1))).2 = 0
      · rw [if_pos h0, if_pos h0]; rfl
      · rw [if_neg h0, if_neg h0]
        unfold moved
        simp only [if_true]
        congr 2
        omega
    · rw [if_neg h35, if_neg h35]
      by_cases h0 : (bestF (s.drop (0 + 1))).2 = 0
      · rw [if_pos h0, if_pos h0]; rfl
      · rw [if_neg h0, if_neg h0]
        have e : a.length + 1 + (bestF (s.drop (0 + 1))).2 = a.length + (0 + 1 + (bestF (s.drop (0 + 1))).2) := by omega
        rw [e, shut_app a s attr _ (by omega)]
        by_cases hs : shut s attr (0 + 1 + (bestF (s.drop (0 + 1))).2) = true
        · rw [if_pos hs, if_pos hs]; rfl
        · rw [if_neg hs, if_neg hs]
          unfold moved
          simp only [if_true]
          congr 2
          omega
  · rw [if_neg h, if_neg (fun k => h (hc.1 k))]; rfl
theorem encode_ne (n : Int) : (Utf8.encode n).data.toList ≠ [] := by
  unfold Utf8.encode
  simp only
  generalize (if Utf8.valid n = true then n.toNat else Utf8.runeError) = c
  by_cases h1 : c < 0x80
  · rw [if_pos h1]; simp
  · rw [if_neg h1]
    by_cases h2 : c < 0x800
    · rw [if_pos h2]; simp
    · rw [if_neg h2]
      by_cases h3 : c < 0x10000
      · rw [if_pos h3]; simp
      · rw [if_neg h3]; simp
set_option maxRecDepth 100000 in
theorem charT_ne : (List.range 32).all (fun i => !(charT.getD i []).isEmpty) = true := by decide +kernel
theorem charB_ne (n : Nat) : charB n ≠ [] := by
  unfold charB
  split
  · simp
  · split
    · have := List.all_eq_true.1 charT_ne (n - 128) (by simp; omega)
      intro e
      rw [e] at this
      simp at this
    · exact encode_ne n
theorem texts_ne : allN.all (fun x => !x.text.isEmpty && decide (2 ≤ x.name.length)) = true := by decide +kernel
theorem findB_none {s : List UInt8} {k : Nat} {attr : Bool} (h : (findB s k attr).2.2 = false) : findB s k attr = ([], 0, false) := by
  revert h
  unfold findB
  split
  · split
    · split
      · intro _; rfl
      · intro h; cases h
    · split
      · intro _; rfl
      · split
        · intro _; rfl
        · intro h; cases h
  · intro _; rfl
theorem findB_good {s : List UInt8} {attr : Bool} (h : (findB s 0 attr).2.2 = true) : 3 ≤ (findB s 0 attr).2.1 ∧ (findB s 0 attr).2.1 ≤ s.length ∧ (0 < s.length ∧ s.getD 0 0 = 38) ∧ (findB s 0 attr).1 ≠ [] := by
  revert h
  unfold findB
  split
  · rename_i hc
    split
    · split
      · intro h; cases h
      · rename_i h35 h0
        intro _
        have hl := numB_le (s.drop (0 + 1 + 1))
        simp only [List.length_drop] at hl
        refine ⟨by simp only; omega, by simp only; omega, hc, ?_⟩
        simp only
        unfold numB numAt at h0 ⊢
        split
        · split
          · rename_i a b; rw [if_pos a, if_pos b] at h0; exact absurd rfl h0
          · exact charB_ne _
        · split
          · rename_i a b; rw [if_neg a, if_pos b] at h0; exact absurd rfl h0
          · exact charB_ne _
    · split
      · intro h; cases h
      · split
        · intro h; cases h
        · rename_i h35 h0 _
          intro _
          have hl := bestF_le (s.drop (0 + 1))
          simp only [List.length_drop] at hl
          rcases (bestF_best (s.drop (0 + 1))).2 with b | ⟨y, hy, _, e, h1, e2⟩
          · exact absurd b.1 h0
          · have ht := List.all_eq_true.1 texts_ne y hy
            simp only [Bool.and_eq_true, Bool.not_eq_true', decide_eq_true_eq] at ht
            obtain ⟨_, ce⟩ := ev_cases (by rw [e]; exact h1)
            rw [e] at ce
            have h2 : 2 ≤ (bestF (s.drop (0 + 1))).2 := by rcases ce with ce | ce <;> omega
            refine ⟨by simp only; omega, by simp only; omega, hc, ?_⟩
            simp only
            rw [e2]
            intro e3
            rw [e3] at ht
            cases ht.1
  · intro h; cases h

/-! ### each name -/
theorem names_free : allN.all (fun x => !x.name.contains 59 && !x.name.contains 32 && x.name.head? != some 35) = true := by decide +kernel
theorem not_hash {x : Nm} (hx : x ∈ allN) (b : List UInt8) : ([35] : List UInt8).isPrefixOf (x.name ++ b) = false := by
  have h := List.all_eq_true.1 names_free x hx
  have h2 := List.all_eq_true.1 texts_ne x hx
  simp only [Bool.and_eq_true, decide_eq_true_eq, bne_iff_ne, ne_eq] at h h2
  cases hn : x.name with
  | nil => rw [hn] at h2; simp at h2
  | cons c t =>
    rw [hn] at h
    simp only [List.head?_cons, Option.some.injEq] at h
    rw [Bool.eq_false_iff]
    intro h3
    simp only [List.cons_append, List.isPrefixOf, Bool.and_eq_true, beq_iff_eq] at h3
    exact h.2 h3.1.symm
/-- How a name lies in a text that begins with another one and a byte that stands in none. -/
theorem in_name {x y : Nm} {d : UInt8} {b : List UInt8} (hd : d ∉ y.name) (h : y.name.isPrefixOf (x.name ++ d :: b) = true) : y.name.length ≤ x.name.length := by
  rw [List.isPrefixOf_iff_prefix] at h
  obtain ⟨t, ht⟩ := h
  apply Classical.byContradiction
  intro hn
  have h1 : (y.name ++ t)[x.name.length]? = some d := by
    rw [ht, List.getElem?_append_right (Nat.le_refl _), Nat.sub_self]; rfl
  rw [List.getElem?_append_left (by omega)] at h1
  exact hd (List.mem_of_getElem? h1)
theorem head_at {x : Nm} {d : UInt8} {b : List UInt8} {k : Nat} (hk : k < x.name.length) : ((x.name ++ d :: b).drop k).head? = x.name[k]? := by
  rw [List.head?_drop, List.getElem?_append_left hk]
theorem ev_short {x y : Nm} (hx : x ∈ allN) (_hy : y ∈ allN) {d : UInt8} {b : List UInt8} (hl : y.name.length < x.name.length) : ev (x.name ++ d :: b) y < x.name.length := by
  have h := List.all_eq_true.1 names_free x hx
  simp only [Bool.and_eq_true, Bool.not_eq_true'] at h
  unfold ev
  split
  · rw [head_at hl]
    split
    · rename_i h2
      have := List.mem_of_getElem? h2
      simp [this] at h
    · split <;> omega
  · omega
theorem name_semi {x : Nm} (hx : x ∈ allN) (b : List UInt8) : bestF (x.name ++ 59 :: b) = (x.text, x.name.length + 1) := by
  have hp : x.name.isPrefixOf (x.name ++ 59 :: b) = true := by rw [List.isPrefixOf_iff_prefix]; exact ⟨_, rfl⟩
  have he : ev (x.name ++ 59 :: b) x = x.name.length + 1 := by
    unfold ev
    rw [hp, if_pos rfl, List.drop_left]
    rfl
  refine best_is ⟨fun y hy _ => ?_, .inr ⟨x, hx, trivial, he, by omega, rfl⟩⟩
  have h := List.all_eq_true.1 names_free y hy
  simp only [Bool.and_eq_true, Bool.not_eq_true'] at h
  by_cases hpy : y.name.isPrefixOf (x.name ++ 59 :: b) = true
  · have hl := in_name (d := 59) (fun hm => by simp [hm] at h) hpy
    unfold ev
    rw [hpy, if_pos rfl]
    split
    · omega
    · split <;> omega
  · unfold ev
    rw [if_neg hpy]
    omega
theorem name_blank {x : Nm} (hx : x ∈ allN) (b : List UInt8) : (x.loose = true → bestF (x.name ++ 32 :: b) = (x.text, x.name.length)) ∧ (x.loose = false → (bestF (x.name ++ 32 :: b)).2 < x.name.length) := by
  have h2 := List.all_eq_true.1 texts_ne x hx
  simp only [Bool.and_eq_true, decide_eq_true_eq] at h2
  have hp : x.name.isPrefixOf (x.name ++ 32 :: b) = true := by rw [List.isPrefixOf_iff_prefix]; exact ⟨_, rfl⟩
  have he : ev (x.name ++ 32 :: b) x = if x.loose then x.name.length else 0 := by
    unfold ev
    rw [hp, if_pos rfl, List.drop_left, if_neg (by simp)]
  have hy1 : ∀ y ∈ allN, ev (x.name ++ 32 :: b) y < x.name.length ∨ (y.name = x.name) := fun y hy => by
    by_cases hpy : y.name.isPrefixOf (x.name ++ 32 :: b) = true
    · have h := List.all_eq_true.1 names_free y hy
      simp only [Bool.and_eq_true, Bool.not_eq_true'] at h
      have hl := in_name (d := 32) (fun hm => by simp [hm] at h) hpy
      by_cases hl2 : y.name.length < x.name.length
      · exact .inl (ev_short hx hy hl2)
      · have e : y.name.length = x.name.length := by omega
        have t1 := take_of_prefix hpy
        have t2 := take_of_prefix hp
        rw [e] at t1
        exact .inr (t1.symm.trans t2)
    · left
      unfold ev
      rw [if_neg hpy]
      omega
  have hloose : ∀ y ∈ allN, y.name = x.name → y.loose = x.loose := by
    intro y hy e
    have key : allN.all (fun x => allN.all (fun y => y.name != x.name || y.loose == x.loose)) = true := by decide +kernel
    have := List.all_eq_true.1 (List.all_eq_true.1 key x hx) y hy
    simpa [e] using this
  constructor
  · intro hL
    rw [hL, if_pos rfl] at he
    refine best_is ⟨fun y hy _ => ?_, .inr ⟨x, hx, trivial, he, by omega, rfl⟩⟩
    rcases hy1 y hy with h | h
    · omega
    · rw [ev_congr h (hloose y hy h), he]; omega
  · intro hL
    rw [hL] at he
    rcases (bestF_best (x.name ++ 32 :: b)).2 with b1 | ⟨y, hy, _, e, h1, _⟩
    · omega
    · rcases hy1 y hy with h | h
      · omega
      · rw [ev_congr h (hloose y hy h), he] at e
        simp only [Bool.false_eq_true, if_false] at e
        omega
theorem find_semi {x : Nm} (hx : x ∈ allN) (b : List UInt8) (attr : Bool) : findB (38 :: (x.name ++ 59 :: b)) 0 attr = (x.text, x.name.length + 2, true) := by
  unfold findB
  rw [if_pos ⟨by simp, rfl⟩]
  show (if ([35] : List UInt8).isPrefixOf (x.name ++ 59 :: b) = true then _ else if (bestF (x.name ++ 59 :: b)).2 = 0 then _ else if shut _ attr (0 + 1 + (bestF (x.name ++ 59 :: b)).2) = true then _ else ((bestF (x.name ++ 59 :: b)).1, 0 + 1 + (bestF (x.name ++ 59 :: b)).2, true)) = _
  rw [not_hash hx, name_semi hx]
  have hs : shut (38 :: (x.name ++ 59 :: b)) attr (0 + 1 + (x.name.length + 1)) = false := by
    unfold shut
    have e : (38 :: (x.name ++ 59 :: b)).getD (0 + 1 + (x.name.length + 1) - 1) 0 = 59 := by
      have e0 : 0 + 1 + (x.name.length + 1) - 1 = x.name.length + 1 := by omega
      rw [e0, List.getD_eq_getElem?_getD, List.getElem?_cons_succ, List.getElem?_append_right (Nat.le_refl _), Nat.sub_self]
      rfl
    rw [e]
    simp
  simp only [hs, Bool.false_eq_true, if_false]
  rw [if_neg (by omega)]
  congr 2
  omega
theorem find_blank {x : Nm} (hx : x ∈ allN) (b : List UInt8) (attr : Bool) :
    (x.loose = true → findB (38 :: (x.name ++ 32 :: b)) 0 attr = (x.text, x.name.length + 1, true)) ∧ (x.loose = false → (findB (38 :: (x.name ++ 32 :: b)) 0 attr).2.1 < x.name.length + 1) := by
  have h2 := List.all_eq_true.1 texts_ne x hx
  simp only [Bool.and_eq_true, decide_eq_true_eq] at h2
  obtain ⟨n1, n2⟩ := name_blank hx b
  have hF : findB (38 :: (x.name ++ 32 :: b)) 0 attr = (if ([35] : List UInt8).isPrefixOf (x.name ++ 32 :: b) = true then (if (numB ((x.name ++ 32 :: b).drop 1)).2 = 0 then ([], 0, false) else ((numB ((x.name ++ 32 :: b).drop 1)).1, 0 + 1 + 1 + (numB ((x.name ++ 32 :: b).drop 1)).2, true)) else if (bestF (x.name ++ 32 :: b)).2 = 0 then ([], 0, false) else if shut (38 :: (x.name ++ 32 :: b)) attr (0 + 1 + (bestF (x.name ++ 32 :: b)).2) = true then ([], 0, false) else ((bestF (x.name ++ 32 :: b)).1, 0 + 1 + (bestF (x.name ++ 32 :: b)).2, true)) := by
    unfold findB
    rw [if_pos ⟨by simp, rfl⟩]
    rfl
  rw [not_hash hx] at hF
  simp only [Bool.false_eq_true, if_false] at hF
  constructor
  · intro hL
    rw [n1 hL] at hF
    have hs : shut (38 :: (x.name ++ 32 :: b)) attr (0 + 1 + x.name.length) = false := by
      unfold shut
      have e : (38 :: (x.name ++ 32 :: b)).getD (0 + 1 + x.name.length) 0 = 32 := by
        have e0 : 0 + 1 + x.name.length = x.name.length + 1 := by omega
        rw [e0, List.getD_eq_getElem?_getD, List.getElem?_cons_succ, List.getElem?_append_right (Nat.le_refl _), Nat.sub_self]
        rfl
      rw [e]
      have e2 : goesOn 32 = false := by decide
      rw [e2, Bool.and_false]
    simp only [hs, Bool.false_eq_true, if_false] at hF
    rw [if_neg (by omega)] at hF
    rw [hF]
    congr 2
    omega
  · intro hL
    have := n2 hL
    rw [hF]
    split
    · simp only; omega
    · split
      · simp only; omega
      · simp only; omega
end Go.Proofs.YtbolajljfkjfaaaDoor
