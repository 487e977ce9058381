/-
  What is proved: plain laws: the reference that stands at a place of a text. No condition.
-/
import Derived.Test.YtbolajljfkjfaaaDoorRefC
import Derived.Test.YtbolajljfkjfaaaDoorRefN
import Derived.Test.YtbolajljfkjfaaaDoorAlf
namespace Go.Proofs.YtbolajljfkjfaaaDoor
open Go.RowKit

/-- The digits at a list's front, from a number on: their number, at most one behind the last character, and how many they are. -/
def digs (b : Nat) : List UInt8 → Nat → Nat × Nat
  | [], n => (n, 0)
  | c :: t, n => if isHex c = true ∧ hexN c < b then ((digs b t (min (b * n + hexN c) 1114112)).1, (digs b t (min (b * n + hexN c) 1114112)).2 + 1) else (n, 0)
def xP (l : List UInt8) : Bool := ([120] : List UInt8).isPrefixOf l || ([88] : List UInt8).isPrefixOf l
def semiN (l : List UInt8) : Nat := if ([59] : List UInt8).isPrefixOf l then 1 else 0
/-- What number hands back, at a base and behind some bytes. -/
def numAt (b o : Nat) (l : List UInt8) : List UInt8 × Nat :=
  if (digs b (l.drop o) 0).2 = 0 then ([], 0) else (charB (digs b (l.drop o) 0).1, o + (digs b (l.drop o) 0).2 + semiN (l.drop (o + (digs b (l.drop o) 0).2)))
def numB (l : List UInt8) : List UInt8 × Nat := if xP l then numAt 16 1 l else numAt 10 0 l
theorem digs_le (b : Nat) : ∀ (l : List UInt8) (n : Nat), n ≤ 1114112 → (digs b l n).1 ≤ 1114112 ∧ (digs b l n).2 ≤ l.length
  | [], n, h => ⟨h, Nat.le_refl _⟩
  | c :: t, n, h => by
    unfold digs
    split
    · have := digs_le b t (min (b * n + hexN c) 1114112) (by omega)
      simp only [List.length_cons]
      omega
    · exact ⟨h, by simp⟩
theorem drop_cons {l : List UInt8} {k : Nat} (h : k < l.length) : l.drop k = l[k] :: l.drop (k + 1) := List.drop_eq_getElem_cons h
/-- Where a round goes on. -/
theorem digs_more {b : Nat} {l : List UInt8} {k n : Nat} (h : k < l.length) (h1 : isHex l[k] = true) (h2 : hexN l[k] < b) : digs b (l.drop k) n = ((digs b (l.drop (k + 1)) (min (b * n + hexN l[k]) 1114112)).1, (digs b (l.drop (k + 1)) (min (b * n + hexN l[k]) 1114112)).2 + 1) := by
  rw [drop_cons h]
  conv => lhs; unfold digs
  rw [if_pos ⟨h1, h2⟩]
theorem digs_stop {b : Nat} {l : List UInt8} {k n : Nat} (h : k < l.length) (h1 : isHex l[k] = false ∨ b ≤ hexN l[k]) : digs b (l.drop k) n = (n, 0) := by
  rw [drop_cons h]
  unfold digs
  rw [if_neg]
  rintro ⟨a, c⟩
  rcases h1 with h1 | h1
  · rw [h1] at a; cases a
  · omega
theorem digs_end {b : Nat} {l : List UInt8} {k n : Nat} (h : l.length ≤ k) : digs b (l.drop k) n = (n, 0) := by
  rw [List.drop_eq_nil_of_le h]
  rfl
/-- What a loop over digits holds. -/
def DigRel (b o : Nat) (l : List UInt8) (k n : Nat) : Prop :=
  o ≤ k ∧ k ≤ l.length ∧ n ≤ 1114112 ∧ (digs b (l.drop o) 0).1 = (digs b (l.drop k) n).1 ∧ (digs b (l.drop o) 0).2 = (digs b (l.drop k) n).2 + (k - o)
theorem digRel_start {b o : Nat} {l : List UInt8} (h : o ≤ l.length) : DigRel b o l o 0 := ⟨Nat.le_refl _, h, by omega, rfl, by omega⟩
theorem digRel_more {b o : Nat} {l : List UInt8} {k n : Nat} (h : DigRel b o l k n) (hk : k < l.length) (h1 : isHex l[k] = true) (h2 : hexN l[k] < b) : DigRel b o l (k + 1) (min (b * n + hexN l[k]) 1114112) := by
  obtain ⟨a1, a2, a3, a4, a5⟩ := h
  rw [digs_more hk h1 h2] at a4 a5
  exact ⟨by omega, by omega, by omega, a4, by simp only at a5; omega⟩
/-- The loop is over: what was read. -/
theorem digRel_end {b o : Nat} {l : List UInt8} {k n : Nat} (h : DigRel b o l k n) (hs : digs b (l.drop k) n = (n, 0)) : (digs b (l.drop o) 0) = (n, k - o) := by
  obtain ⟨a1, a2, a3, a4, a5⟩ := h
  rw [hs] at a4 a5
  apply Prod.ext
  · exact a4
  · simp only at a5 ⊢; omega
theorem numAt_none {b o : Nat} {l : List UInt8} {k n : Nat} (h : DigRel b o l k n) (hs : digs b (l.drop k) n = (n, 0)) (hk : k = o) : numAt b o l = ([], 0) := by
  unfold numAt
  rw [digRel_end h hs, if_pos (by simp only; omega)]
theorem numAt_some {b o : Nat} {l : List UInt8} {k n : Nat} (h : DigRel b o l k n) (hs : digs b (l.drop k) n = (n, 0)) (hk : o < k) : numAt b o l = (charB n, k + semiN (l.drop k)) := by
  unfold numAt
  rw [digRel_end h hs, if_neg (by simp only; omega)]
  have e : o + (k - o) = k := by omega
  simp only [e]
theorem numB_le (l : List UInt8) : (numB l).2 ≤ l.length := by
  have key : ∀ b o, o ≤ l.length → (numAt b o l).2 ≤ l.length := by
    intro b o ho
    unfold numAt
    split
    · simp
    · have := (digs_le b (l.drop o) 0 (by omega)).2
      simp only [List.length_drop] at this
      simp only
      unfold semiN
      split
      · rename_i h
        have hl := (List.isPrefixOf_iff_prefix.1 h).length_le
        simp only [List.length_drop, List.length_cons, List.length_nil] at hl
        omega
      · omega
  unfold numB
  split
  · rename_i h
    apply key
    unfold xP at h
    cases l with
    | nil => simp [List.isPrefixOf] at h
    | cons a t => simp
  · exact key _ _ (by omega)
/-- The longest of the names. -/
def bestStep (s : List UInt8) (p : List UInt8 × Nat) (x : Nm) : List UInt8 × Nat := if p.2 < ev s x then (x.text, ev s x) else p
def bestF (s : List UInt8) : List UInt8 × Nat := allN.foldl (bestStep s) ([], 0)
theorem best_fold (s : List UInt8) : ∀ (l : List Nm) (p : List UInt8 × Nat) (seen : Nm → Prop), (∀ x ∈ l, x ∈ allN) → Best s seen p.1 p.2 → Best s (fun x => seen x ∨ x ∈ l) (l.foldl (bestStep s) p).1 (l.foldl (bestStep s) p).2
  | [], p, seen, _, h => by
    have e : (fun x => seen x ∨ x ∈ ([] : List Nm)) = seen := by funext x; simp
    rw [e]; exact h
  | x :: l, p, seen, hl, h => by
    have hx := hl x (by simp)
    have hb := best_more h hx (fun y => seen y ∨ (y.name = x.name ∧ y.loose = x.loose)) (fun y _ => Iff.rfl)
    have h2 : Best s (fun y => seen y ∨ (y.name = x.name ∧ y.loose = x.loose)) (bestStep s p x).1 (bestStep s p x).2 := by
      unfold bestStep
      split
      · exact hb.1 (by omega) (by omega)
      · exact hb.2 (by omega)
    have h3 := best_fold s l (bestStep s p x) _ (fun y hy => hl y (by simp [hy])) h2
    refine ⟨fun y hy sy => h3.1 y hy ?_, ?_⟩
    · rcases sy with sy | sy
      · exact .inl (.inl sy)
      · rcases List.mem_cons.1 sy with rfl | sy
        · exact .inl (.inr ⟨rfl, rfl⟩)
        · exact .inr sy
    · rcases h3.2 with b | ⟨y, hy, sy, b⟩
      · exact .inl b
      · rcases sy with (sy | ⟨e1, e2⟩) | sy
        · exact .inr ⟨y, hy, .inl sy, b⟩
        · refine .inr ⟨x, hx, .inr (by simp), ?_, b.2.1, ?_⟩
          · rw [← ev_congr e1 e2]; exact b.1
          · exact b.2.2.trans (ev_unique (s := s) hy hx (ev_congr e1 e2) (by rw [b.1]; exact b.2.1))
        · exact .inr ⟨y, hy, .inr (by simp [sy]), b⟩
theorem bestF_best (s : List UInt8) : Best s (fun _ => True) (bestF s).1 (bestF s).2 := by
  have h := best_fold s allN ([], 0) (fun _ => False) (fun x h => h) ⟨fun _ _ h => h.elim, .inl ⟨rfl, rfl⟩⟩
  refine ⟨fun x hx _ => h.1 x hx (.inr hx), ?_⟩
  rcases h.2 with b | ⟨y, hy, _, b⟩
  · exact .inl b
  · exact .inr ⟨y, hy, trivial, b⟩
theorem best_is {s t : List UInt8} {m : Nat} (h : Best s (fun _ => True) t m) : bestF s = (t, m) := by
  obtain ⟨e1, e2⟩ := Best.unique (fun _ _ => Iff.rfl) (bestF_best s) h
  exact Prod.ext e1 e2
theorem ev_le (s : List UInt8) (x : Nm) : ev s x ≤ s.length := by
  unfold ev
  split
  · rename_i h
    have hl := (List.isPrefixOf_iff_prefix.1 h).length_le
    split
    · rename_i h2
      rw [List.head?_drop] at h2
      obtain ⟨h3, _⟩ := List.getElem?_eq_some_iff.1 h2
      omega
    · split <;> omega
  · omega
theorem bestF_le (s : List UInt8) : (bestF s).2 ≤ s.length := by
  rcases (bestF_best s).2 with b | ⟨y, hy, _, e, _⟩
  · rw [b.1]; omega
  · rw [← e]; exact ev_le s y
/-- A byte that goes on with a name, in an attribute. -/
def goesOn (c : UInt8) : Bool := c == 61 || alphaB c || digB c
/-- A name in an attribute that is none. -/
def shut (s : List UInt8) (attr : Bool) (next : Nat) : Bool := attr && s.getD (next - 1) 0 != 59 && decide (next < s.length) && goesOn (s.getD next 0)
/-- The reference at a place. -/
def findB (s : List UInt8) (at' : Nat) (attr : Bool) : List UInt8 × Nat × Bool :=
  if at' < s.length ∧ s.getD at' 0 = 38 then
    if ([35] : List UInt8).isPrefixOf (s.drop (at' + 1)) then
      if (numB (s.drop (at' + 1 + 1))).2 = 0 then ([], 0, false) else ((numB (s.drop (at' + 1 + 1))).1, at' + 1 + 1 + (numB (s.drop (at' + 1 + 1))).2, true)
    else if (bestF (s.drop (at' + 1))).2 = 0 then ([], 0, false)
    else if shut s attr (at' + 1 + (bestF (s.drop (at' + 1))).2) then ([], 0, false)
    else ((bestF (s.drop (at' + 1))).1, at' + 1 + (bestF (s.drop (at' + 1))).2, true)
  else ([], 0, false)
def findI (s : List UInt8) (i : Int) (attr : Bool) : List UInt8 × Nat × Bool := if i < 0 then ([], 0, false) else findB s i.toNat attr
end Go.Proofs.YtbolajljfkjfaaaDoor
