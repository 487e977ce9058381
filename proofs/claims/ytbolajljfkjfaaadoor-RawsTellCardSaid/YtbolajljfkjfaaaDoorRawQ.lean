/-
  What is proved: plain laws of raw texts: the ends that the reference finds are the program's. No condition.
-/
import Derived.Test.YtbolajljfkjfaaaDoorRawP
namespace Go.Proofs.YtbolajljfkjfaaaDoor
open Go.RowKit

/-- Where a raw text ends, by the reference's states. -/
def untR (n : List UInt8) (script : Bool) : Nat → Nat → List UInt8 → Nat
  | _, _, [] => 0
  | st, d, c :: t =>
    if st < 2 ∧ wordB (endN n) (c :: t) = true then 0
    else if script = false then untR n script st d t + 1
    else
      let s1 := if c = 62 ∧ 2 ≤ d ∧ 0 < st then 0 else st
      let s2 := if s1 = 1 ∧ wordB scO (c :: t) = true then 2 else if s1 = 2 ∧ wordB scE (c :: t) = true then 1 else if s1 = 0 ∧ standsB openC (c :: t) = true then 1 else s1
      untR n script s2 (if c = 45 then d + 1 else 0) t + 1
theorem unt_stop (n : List UInt8) : ∀ (r : List UInt8) (st d : Nat), st < 2 → untR n false st d r = stopP n r
  | [], _, _, _ => rfl
  | c :: t, st, d, h => by
    unfold untR stopP
    by_cases hw : wordB (endN n) (c :: t) = true
    · rw [if_pos ⟨h, hw⟩, if_pos hw]
    · rw [if_neg (fun e => hw e.2), if_neg hw, if_pos rfl, unt_stop n t st d h]
theorem word_sign {c : UInt8} (h : c ≠ 60) (f t : List UInt8) : wordB (60 :: f) (c :: t) = false := by
  unfold wordB
  rw [stands_sign (by simp)]
  have : (c == 60) = false := by simpa using h
  rw [this]
  rfl
theorem stands_open (r : List UInt8) : standsB openC r = openC.isPrefixOf r := by
  unfold openC
  cases r with
  | nil => rfl
  | cons a r =>
    rw [stands_sign (by simp)]
    cases r with
    | nil => simp [standsB, List.isPrefixOf]
    | cons b r =>
      rw [stands_sign (by simp)]
      cases r with
      | nil => simp [standsB, List.isPrefixOf]
      | cons c r =>
        rw [stands_sign (by simp)]
        cases r with
        | nil => simp [standsB, List.isPrefixOf]
        | cons d r =>
          rw [stands_sign (by simp), standsB_empty]
          simp only [List.isPrefixOf, Bool.and_true]
          rw [Bool.beq_comm (a := a), Bool.beq_comm (a := b), Bool.beq_comm (a := c), Bool.beq_comm (a := d)]
theorem open_head {c : UInt8} {t : List UInt8} (h : openC.isPrefixOf (c :: t) = true) : c = 60 ∧ ∃ u, t = 33 :: 45 :: 45 :: u := by
  obtain ⟨r, hr⟩ := List.isPrefixOf_iff_prefix.1 h
  have hr2 : 60 :: 33 :: 45 :: 45 :: r = c :: t := hr
  simp only [List.cons.injEq] at hr2
  exact ⟨hr2.1.symm, r, hr2.2.symm⟩
theorem shut_head {c : UInt8} {t : List UInt8} (h : shutC.isPrefixOf (c :: t) = true) : c = 45 ∧ ∃ u, t = 45 :: 62 :: u := by
  obtain ⟨r, hr⟩ := List.isPrefixOf_iff_prefix.1 h
  have hr2 : 45 :: 45 :: 62 :: r = c :: t := hr
  simp only [List.cons.injEq] at hr2
  exact ⟨hr2.1.symm, r, hr2.2.symm⟩
theorem shut_front (u : List UInt8) : shutC.isPrefixOf (45 :: 45 :: 62 :: u) = true := rfl
/-- No end of a comment is under way. -/
def okD (d : Nat) (r : List UInt8) : Prop := ¬ (2 ≤ d ∧ ∃ u, r = 62 :: u) ∧ ¬ (1 ≤ d ∧ ∃ u, r = 45 :: 62 :: u)
theorem okD_zero (r : List UInt8) : okD 0 r := ⟨fun h => by omega, fun h => by omega⟩
theorem unt_quiet (n : List UInt8) {st d : Nat} {c : UInt8} {t : List UInt8} (h : c ≠ 60) (h2 : ¬ (c = 62 ∧ 2 ≤ d ∧ 0 < st)) : untR n true st d (c :: t) = untR n true st (if c = 45 then d + 1 else 0) t + 1 := by
  have w1 : wordB (endN n) (c :: t) = false := word_sign h _ _
  have w2 : wordB scO (c :: t) = false := word_sign h _ _
  have w3 : wordB scE (c :: t) = false := word_sign h _ _
  have w4 : standsB openC (c :: t) = false := by
    cases ho : standsB openC (c :: t) with
    | false => rfl
    | true => rw [stands_open] at ho; exact absurd (open_head ho).1 h
  conv => lhs; unfold untR
  rw [w1, w2, w3, w4]
  simp [h2]
theorem halt_quiet (n : List UInt8) {d : Nat} {c : UInt8} {t : List UInt8} (h : c ≠ 60) (h2 : d ≠ 0 → shutC.isPrefixOf (c :: t) = false) : haltP n d (c :: t) = haltP n d t + 1 := by
  have w1 : wordB (endN n) (c :: t) = false := word_sign h _ _
  have w2 : wordB scO (c :: t) = false := word_sign h _ _
  have w3 : wordB scE (c :: t) = false := word_sign h _ _
  have w4 : openC.isPrefixOf (c :: t) = false := by
    cases ho : openC.isPrefixOf (c :: t) with
    | false => rfl
    | true => exact absurd (open_head ho).1 h
  conv => lhs; unfold haltP
  rw [w1, w2, w3, w4]
  by_cases hd : d = 0
  · simp [hd]
  · simp [hd, h2 hd]
theorem lag2 (n : List UInt8) (r : List UInt8) (h0 : ∀ d, untR n true 0 d r = haltP n 0 r) (st d : Nat) (hs : st = 1 ∨ st = 2) (hd : 2 ≤ d) : untR n true st d (62 :: r) = haltP n 0 (62 :: r) := by
  have w1 : wordB (endN n) (62 :: r) = false := word_sign (by decide) _ _
  have w2 : wordB scO (62 :: r) = false := word_sign (by decide) _ _
  have w3 : wordB scE (62 :: r) = false := word_sign (by decide) _ _
  have w4 : standsB openC (62 :: r) = false := by rw [stands_open]; rfl
  rw [halt_quiet n (by decide) (by simp), ← h0 0]
  conv => lhs; unfold untR
  rw [w1, w2, w3, w4]
  have : 0 < st := by omega
  simp [hd, this]
theorem lag1 (n : List UInt8) (r : List UInt8) (h0 : ∀ d, untR n true 0 d r = haltP n 0 r) (st d : Nat) (hs : st = 1 ∨ st = 2) (hd : 1 ≤ d) : untR n true st d (45 :: 62 :: r) = haltP n 0 (45 :: 62 :: r) := by
  rw [halt_quiet n (by decide) (by simp), unt_quiet n (by decide) (by simp), if_pos rfl, lag2 n r h0 st (d + 1) hs (by omega)]
theorem unt_halt (n : List UInt8) : ∀ (k : Nat) (r : List UInt8), r.length ≤ k → (∀ d, untR n true 0 d r = haltP n 0 r) ∧ ∀ st d, (st = 1 ∨ st = 2) → okD d r → untR n true st d r = haltP n st r
  | _, [], _ => ⟨fun _ => rfl, fun _ _ _ _ => rfl⟩
  | 0, c :: t, h => by simp at h
  | k + 1, c :: t, h => by
    simp only [List.length_cons] at h
    obtain ⟨i0, i1⟩ := unt_halt n k t (by omega)
    refine ⟨fun d => ?_, fun st d hs hd => ?_⟩
    · by_cases hw : wordB (endN n) (c :: t) = true
      · unfold untR haltP
        rw [if_pos ⟨by decide, hw⟩, if_pos ⟨by decide, hw⟩]
      · by_cases ho : openC.isPrefixOf (c :: t) = true
        · obtain ⟨rfl, u, rfl⟩ := open_head ho
          have hw0 : wordB (endN n) (60 :: 33 :: 45 :: 45 :: u) = false := by simpa using hw
          have e1 : untR n true 0 d (60 :: 33 :: 45 :: 45 :: u) = untR n true 1 0 (33 :: 45 :: 45 :: u) + 1 := by
            have h4 : standsB openC (60 :: 33 :: 45 :: 45 :: u) = true := by rw [stands_open]; exact ho
            conv => lhs; unfold untR
            rw [hw0, h4]
            simp
          have e2 : haltP n 0 (60 :: 33 :: 45 :: 45 :: u) = haltP n 1 (45 :: 45 :: u) + 2 := by
            conv => lhs; unfold haltP
            rw [hw0, ho]
            simp
          rw [e1, e2, unt_quiet n (by decide) (by decide), if_neg (by decide)]
          have := (unt_halt n k (45 :: 45 :: u) (by simp only [List.length_cons] at h ⊢; omega)).2 1 0 (.inl rfl) (okD_zero _)
          rw [this]
        · have hw0 : wordB (endN n) (c :: t) = false := by simpa using hw
          have ho0 : openC.isPrefixOf (c :: t) = false := Bool.eq_false_iff.2 ho
          have h4 : standsB openC (c :: t) = false := by rw [stands_open]; exact ho0
          have e1 : untR n true 0 d (c :: t) = untR n true 0 (if c = 45 then d + 1 else 0) t + 1 := by
            conv => lhs; unfold untR
            rw [hw0, h4]
            simp
          have e2 : haltP n 0 (c :: t) = haltP n 0 t + 1 := by
            conv => lhs; unfold haltP
            rw [hw0, ho0]
            simp
          rw [e1, e2, i0]
    · by_cases hw : st ≠ 2 ∧ wordB (endN n) (c :: t) = true
      · unfold untR haltP
        rw [if_pos ⟨by omega, hw.2⟩, if_pos hw]
      · have hw2 : ¬ (st < 2 ∧ wordB (endN n) (c :: t) = true) := fun e => hw ⟨by omega, e.2⟩
        have hs0 : st ≠ 0 := by omega
        by_cases hc : shutC.isPrefixOf (c :: t) = true
        · obtain ⟨rfl, u, rfl⟩ := shut_head hc
          have e2 : haltP n st (45 :: 45 :: 62 :: u) = haltP n 0 (45 :: 62 :: u) + 1 := by
            conv => lhs; unfold haltP
            rw [if_neg hw, if_neg (fun e => hs0 e.1), if_pos ⟨hs0, hc⟩]
          rw [e2, unt_quiet n (by decide) (by simp), if_pos rfl]
          have h0 := (unt_halt n k u (by simp only [List.length_cons] at h; omega)).1
          rw [lag1 n u h0 st (d + 1) hs (by omega)]
        · have hc0 : shutC.isPrefixOf (c :: t) = false := Bool.eq_false_iff.2 hc
          have hend : ¬ (c = 62 ∧ 2 ≤ d ∧ 0 < st) := by
            rintro ⟨rfl, h1, _⟩
            exact hd.1 ⟨h1, t, rfl⟩
          have e2 : haltP n st (c :: t) = (if st = 1 ∧ wordB scO (c :: t) = true then haltP n 2 t + 1 else if st = 2 ∧ wordB scE (c :: t) = true then haltP n 1 t + 1 else haltP n st t + 1) := by
            conv => lhs; unfold haltP
            rw [if_neg hw, if_neg (fun e => hs0 e.1), if_neg (by rw [hc0]; simp)]
          have e1 : untR n true st d (c :: t) = (if st = 1 ∧ wordB scO (c :: t) = true then untR n true 2 (if c = 45 then d + 1 else 0) t + 1 else if st = 2 ∧ wordB scE (c :: t) = true then untR n true 1 (if c = 45 then d + 1 else 0) t + 1 else untR n true st (if c = 45 then d + 1 else 0) t + 1) := by
            conv => lhs; unfold untR
            rw [if_neg hw2, if_neg (by decide), if_neg hend]
            simp only
            by_cases a1 : st = 1 ∧ wordB scO (c :: t) = true
            · rw [if_pos a1, if_pos a1]
            · rw [if_neg a1, if_neg a1]
              by_cases a2 : st = 2 ∧ wordB scE (c :: t) = true
              · rw [if_pos a2, if_pos a2]
              · rw [if_neg a2, if_neg a2, if_neg (fun e => hs0 e.1)]
          have hword : ∀ f, wordB (60 :: f) (c :: t) = true → c = 60 := fun f hf => by
            apply Classical.byContradiction
            intro hne
            rw [word_sign hne] at hf
            cases hf
          rw [e1, e2]
          by_cases a1 : st = 1 ∧ wordB scO (c :: t) = true
          · rw [if_pos a1, if_pos a1]
            obtain rfl := hword _ a1.2
            rw [if_neg (by decide), i1 2 0 (.inr rfl) (okD_zero _)]
          · rw [if_neg a1, if_neg a1]
            by_cases a2 : st = 2 ∧ wordB scE (c :: t) = true
            · rw [if_pos a2, if_pos a2]
              obtain rfl := hword _ a2.2
              rw [if_neg (by decide), i1 1 0 (.inl rfl) (okD_zero _)]
            · rw [if_neg a2, if_neg a2]
              have hok : okD (if c = 45 then d + 1 else 0) t := by
                by_cases h45 : c = 45
                · subst h45
                  rw [if_pos rfl]
                  refine ⟨?_, ?_⟩
                  · rintro ⟨h1, u, rfl⟩
                    exact hd.2 ⟨by omega, u, rfl⟩
                  · rintro ⟨h1, u, rfl⟩
                    rw [shut_front] at hc0
                    cases hc0
                · rw [if_neg h45]
                  exact okD_zero _
              rw [i1 st _ hs hok]
/-- A raw text from a text's front on, in a state; how many bytes it takes. -/
def rawP (n : List UInt8) (st : Int) (r : List UInt8) : Option (List UInt8 × Nat) :=
  if st = 4 then some (cleanL r, r.length)
  else if st = 1 then some (refsL false (r.take (stopP n r)), stopP n r)
  else if st = 2 then some (cleanL (r.take (stopP n r)), stopP n r)
  else if st = 3 then some (cleanL (r.take (haltP n 0 r)), haltP n 0 r)
  else none
theorem haltP_le (n : List UInt8) : ∀ (k : Nat) (r : List UInt8), r.length ≤ k → ∀ d, haltP n d r ≤ r.length
  | _, [], _, _ => Nat.le_refl _
  | 0, c :: t, h, _ => by simp at h
  | k + 1, c :: t, h, d => by
    simp only [List.length_cons] at h
    have ih := haltP_le n k t (by omega)
    have i0 := ih 0
    have i1 := ih 1
    have i2 := ih 2
    have id := ih d
    unfold haltP
    simp only [List.length_cons]
    split
    · omega
    · split
      · cases t with
        | nil => simp
        | cons b u =>
          have := haltP_le n k u (by simp only [List.length_cons] at h; omega) 1
          simp only [List.length_cons]
          omega
      · split
        · omega
        · split
          · omega
          · split
            · omega
            · omega
theorem rawP_le {n : List UInt8} {st : Int} {r x : List UInt8} {k : Nat} (h : rawP n st r = some (x, k)) : k ≤ r.length := by
  have h1 := stopP_le n r
  have h2 := haltP_le n r.length r (Nat.le_refl _) 0
  unfold rawP at h
  split at h
  · cases h; exact Nat.le_refl _
  · split at h
    · cases h; exact h1
    · split at h
      · cases h; exact h1
      · split at h
        · cases h; exact h2
        · cases h
end Go.Proofs.YtbolajljfkjfaaaDoor
