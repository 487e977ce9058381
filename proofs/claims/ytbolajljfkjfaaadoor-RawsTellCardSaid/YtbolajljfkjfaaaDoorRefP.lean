/-
  What is proved: plain laws of the names of references: the longest one that stands at a text's front is one alone. No condition.
-/
import Derived.Test.YtbolajljfkjfaaaDoorBase
namespace Go.Proofs.YtbolajljfkjfaaaDoor
open Go.RowKit

/-- A name, its character, whether it may lack its semicolon. -/
structure Nm where
  name : List UInt8
  text : List UInt8
  loose : Bool
def looseN : List Nm := [
  ⟨[97, 109, 112], [38], true⟩,
  ⟨[65, 77, 80], [38], true⟩,
  ⟨[108, 116], [60], true⟩,
  ⟨[76, 84], [60], true⟩,
  ⟨[103, 116], [62], true⟩,
  ⟨[71, 84], [62], true⟩,
  ⟨[113, 117, 111, 116], [34], true⟩,
  ⟨[81, 85, 79, 84], [34], true⟩,
  ⟨[110, 98, 115, 112], [194, 160], true⟩,
  ⟨[99, 101, 110, 116], [194, 162], true⟩,
  ⟨[112, 111, 117, 110, 100], [194, 163], true⟩,
  ⟨[121, 101, 110], [194, 165], true⟩,
  ⟨[115, 101, 99, 116], [194, 167], true⟩,
  ⟨[99, 111, 112, 121], [194, 169], true⟩,
  ⟨[67, 79, 80, 89], [194, 169], true⟩,
  ⟨[108, 97, 113, 117, 111], [194, 171], true⟩,
  ⟨[110, 111, 116], [194, 172], true⟩,
  ⟨[114, 101, 103], [194, 174], true⟩,
  ⟨[82, 69, 71], [194, 174], true⟩,
  ⟨[100, 101, 103], [194, 176], true⟩,
  ⟨[112, 108, 117, 115, 109, 110], [194, 177], true⟩,
  ⟨[112, 97, 114, 97], [194, 182], true⟩,
  ⟨[109, 105, 100, 100, 111, 116], [194, 183], true⟩,
  ⟨[114, 97, 113, 117, 111], [194, 187], true⟩,
  ⟨[102, 114, 97, 99, 49, 50], [194, 189], true⟩,
  ⟨[69, 97, 99, 117, 116, 101], [195, 137], true⟩,
  ⟨[116, 105, 109, 101, 115], [195, 151], true⟩,
  ⟨[115, 122, 108, 105, 103], [195, 159], true⟩,
  ⟨[101, 97, 99, 117, 116, 101], [195, 169], true⟩,
  ⟨[117, 117, 109, 108], [195, 188], true⟩]
def strictN : List Nm := [
  ⟨[97, 112, 111, 115], [39], false⟩,
  ⟨[104, 101, 108, 108, 105, 112], [226, 128, 166], false⟩,
  ⟨[109, 100, 97, 115, 104], [226, 128, 148], false⟩,
  ⟨[110, 100, 97, 115, 104], [226, 128, 147], false⟩,
  ⟨[110, 111, 116, 105, 110], [226, 136, 137], false⟩,
  ⟨[99, 111, 108, 111, 110], [58], false⟩,
  ⟨[115, 101, 109, 105], [59], false⟩,
  ⟨[108, 112, 97, 114], [40], false⟩,
  ⟨[114, 112, 97, 114], [41], false⟩,
  ⟨[108, 115, 113, 98], [91], false⟩,
  ⟨[114, 115, 113, 98], [93], false⟩,
  ⟨[115, 111, 108], [47], false⟩,
  ⟨[98, 115, 111, 108], [92], false⟩,
  ⟨[110, 117, 109], [35], false⟩,
  ⟨[113, 117, 101, 115, 116], [63], false⟩,
  ⟨[101, 113, 117, 97, 108, 115], [61], false⟩,
  ⟨[101, 120, 99, 108], [33], false⟩,
  ⟨[112, 101, 114, 105, 111, 100], [46], false⟩,
  ⟨[99, 111, 109, 109, 97, 116], [64], false⟩,
  ⟨[112, 101, 114, 99, 110, 116], [37], false⟩,
  ⟨[84, 97, 98], [9], false⟩,
  ⟨[78, 101, 119, 76, 105, 110, 101], [10], false⟩]
def allN : List Nm := looseN ++ strictN
/-- How many bytes a name takes at a text's front; 0: it does not stand there. -/
def ev (s : List UInt8) (x : Nm) : Nat :=
  if x.name.isPrefixOf s then (if (s.drop x.name.length).head? = some 59 then x.name.length + 1 else if x.loose then x.name.length else 0) else 0
theorem names_ok : allN.all (fun x => !x.name.contains 59 && !x.name.isEmpty) = true := by decide +kernel
theorem names_one : allN.all (fun x => allN.all (fun y => x.name != y.name || x.text == y.text)) = true := by decide +kernel
theorem take_of_prefix : ∀ {n s : List UInt8}, n.isPrefixOf s = true → s.take n.length = n
  | [], _, _ => rfl
  | a :: n, [], h => by simp [List.isPrefixOf] at h
  | a :: n, b :: s, h => by
    simp only [List.isPrefixOf, Bool.and_eq_true, beq_iff_eq] at h
    obtain ⟨rfl, h2⟩ := h
    simp [take_of_prefix h2]
theorem ev_cases {s : List UInt8} {x : Nm} (h : 0 < ev s x) : s.take x.name.length = x.name ∧ ((ev s x = x.name.length + 1 ∧ (s.drop x.name.length).head? = some 59) ∨ (ev s x = x.name.length ∧ (s.drop x.name.length).head? ≠ some 59)) := by
  unfold ev at h ⊢
  by_cases h1 : x.name.isPrefixOf s = true
  · refine ⟨take_of_prefix h1, ?_⟩
    simp only [h1, if_true] at h ⊢
    by_cases h2 : (s.drop x.name.length).head? = some 59
    · simp [h2]
    · simp only [h2, if_false] at h ⊢
      cases h3 : x.loose
      · simp [h3] at h
      · exact .inr ⟨by simp, h2⟩
  · simp [h1] at h
theorem no_semi {s n : List UInt8} (hn : n.contains 59 = false) (k : Nat) (ht : s.take n.length = n) (hk : k < n.length) : (s.drop k).head? ≠ some 59 := by
  intro h
  rw [List.head?_drop] at h
  have h2 : n[k]? = some 59 := by
    rw [← ht, List.getElem?_take, if_pos hk]
    exact h
  have h3 := List.mem_of_getElem? h2
  simp [h3] at hn
theorem ev_unique {s : List UInt8} {x y : Nm} (hx : x ∈ allN) (hy : y ∈ allN) (h : ev s x = ev s y) (h0 : 0 < ev s x) : x.text = y.text := by
  obtain ⟨tx, cx⟩ := ev_cases h0
  obtain ⟨ty, cy⟩ := ev_cases (by rw [← h]; exact h0)
  have ox := List.all_eq_true.1 names_ok x hx
  have oy := List.all_eq_true.1 names_ok y hy
  simp only [Bool.and_eq_true, Bool.not_eq_true'] at ox oy
  have hl : x.name.length = y.name.length := by
    rcases cx with ⟨cx, dx⟩ | ⟨cx, dx⟩ <;> rcases cy with ⟨cy, dy⟩ | ⟨cy, dy⟩
    · omega
    · exact absurd dx (no_semi oy.1 _ ty (by omega))
    · exact absurd dy (no_semi ox.1 _ tx (by omega))
    · omega
  have hn : x.name = y.name := by rw [← tx, ← ty, hl]
  have := List.all_eq_true.1 (List.all_eq_true.1 names_one x hx) y hy
  simpa [hn] using this
/-- The best of some names at a text's front: its character, and how many bytes it takes. -/
def Best (s : List UInt8) (seen : Nm → Prop) (t : List UInt8) (m : Nat) : Prop :=
  (∀ x ∈ allN, seen x → ev s x ≤ m) ∧ ((m = 0 ∧ t = []) ∨ ∃ x ∈ allN, seen x ∧ ev s x = m ∧ 0 < m ∧ t = x.text)
theorem Best.unique {s : List UInt8} {p q : Nm → Prop} {t t' : List UInt8} {m m' : Nat} (hpq : ∀ x ∈ allN, p x ↔ q x) (h : Best s p t m) (h' : Best s q t' m') : t = t' ∧ m = m' := by
  obtain ⟨a, b⟩ := h
  obtain ⟨a', b'⟩ := h'
  rcases b with ⟨rfl, rfl⟩ | ⟨x, hx, sx, ex, mx, rfl⟩ <;> rcases b' with ⟨rfl, rfl⟩ | ⟨y, hy, sy, ey, my, rfl⟩
  · exact ⟨rfl, rfl⟩
  · have := a y hy ((hpq y hy).2 sy); omega
  · have := a' x hx ((hpq x hx).1 sx); omega
  · have h1 := a y hy ((hpq y hy).2 sy)
    have h2 := a' x hx ((hpq x hx).1 sx)
    have hm : m = m' := by omega
    exact ⟨ev_unique (s := s) hx hy (by omega) (by omega), hm⟩
end Go.Proofs.YtbolajljfkjfaaaDoor
