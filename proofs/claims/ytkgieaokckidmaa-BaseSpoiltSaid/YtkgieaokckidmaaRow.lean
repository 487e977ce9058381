/-
  What is proved: laws for a row of bytes that a call has made of a text: '[]byte(s)', reading, one store, 'string(b)'. No condition.
-/
import Derived.Test.YtkgieaokckidmaaBase
import Derived.Laws.IdiomStrings
namespace Go.Proofs.Ytkgieaokckidmaa
open Go.RowKit

/-- Block b holds the bytes l from its front on, none of them frozen. -/
structure ByteRow (b : Nat) (l : List UInt8) (w : World) : Prop where
  cell : ∀ j, (h : j < l.length) → w.cell? ⟨b, j, none⟩ = some (.int .u8 (l[j].toNat : Int))
  free : ∀ j, j < l.length → w.frozen? ⟨b, j, none⟩ = false
theorem ByteRow.drew {b : Nat} {l : List UInt8} {w : World} (h : ByteRow b l w) : ByteRow b l w.drew := ⟨h.cell, h.free⟩
theorem ByteRow.drewN {b : Nat} {l : List UInt8} {w : World} (h : ByteRow b l w) (n : Nat) : ByteRow b l (w.drewN n) := ⟨h.cell, h.free⟩
theorem ByteRow.ext {b : Nat} {l : List UInt8} {w w' : World} (h : ByteRow b l w) (hb : b < w.heap.size) (k : Ext w w') : ByteRow b l w' :=
  ⟨fun j hj => by rw [k.cell (p := ⟨b, j, none⟩) hb]; exact h.cell j hj, fun j hj => by rw [k.frozen (p := ⟨b, j, none⟩) hb]; exact h.free j hj⟩
/-- '[]byte(s)'. -/
theorem row_of_string {P : Program} (w : World) (src dst e : TypeId) (l : List UInt8) (hs : P.underlying src = some .string) (hd : P.underlying dst = some (.slice e)) (he : P.underlying e = some (.int .u8)) :
    ∃ (cap : Nat) (w' : World), (convert src dst (.string ⟨⟨l⟩⟩)).run P w = .ok (.slice (some ⟨w.heap.size, 0, none⟩) l.length cap) w' ∧ l.length ≤ cap ∧ ByteRow w.heap.size l w' ∧ Ext w w' ∧ w'.heap.size = w.heap.size + 1 := by
  have hr := run_bytes_of_string (P := P) w src dst e ⟨⟨l⟩⟩ hs hd he
  have hcap : l.length ≤ grownCap w l.length 0 e := by
    unfold grownCap Question.cut
    exact Nat.le_add_right _ _
  generalize hC : bytesRow ⟨⟨l⟩⟩ (grownCap w (ByteArray.mk (Array.mk l)).size 0 e) = C at hr
  have hcell : ∀ j, (h : j < l.length) → C[j]? = some (.int .u8 (l[j].toNat : Int)) := by
    intro j hj
    rw [← hC]
    unfold bytesRow
    rw [Array.getElem?_append_left (by simpa using hj)]
    simp [hj]
  refine ⟨_, _, hr, hcap, ⟨?_, ?_⟩, ?_, ?_⟩
  · intro j hj
    have hh : (w.drew.alloc (.cells C e (C.size, C.size + 1))).heap[w.heap.size]? = some (.cells C e (C.size, C.size + 1)) := heap_alloc_new w.drew _
    simp only [World.cell?, hh]
    exact hcell j hj
  · intro j hj
    have hh : (w.drew.alloc (.cells C e (C.size, C.size + 1))).heap[w.heap.size]? = some (.cells C e (C.size, C.size + 1)) := heap_alloc_new w.drew _
    have hlt : j < C.size := (Array.getElem?_eq_some_iff.1 (hcell j hj)).1
    simp only [World.frozen?, hh]
    simp
    omega
  · exact (Below.refl _ _).drew.alloc (Nat.le_refl _) _
  · simp
/-- 'b[k] = c'. -/
theorem ByteRow.set {b : Nat} {l : List UInt8} {w : World} (h : ByteRow b l w) (k : Nat) (c : UInt8) : ByteRow b (l.set k c) (w.setCell ⟨b, k, none⟩ (.int .u8 (c.toNat : Int))) := by
  refine ⟨fun j hj => ?_, fun j hj => ?_⟩
  · simp only [List.length_set] at hj
    have h1 := h.cell j hj
    have hb : ∃ cs t fz, w.heap[b]? = some (.cells cs t fz) := by
      unfold World.cell? at h1
      split at h1
      · rename_i cs t fz hh; exact ⟨cs, t, fz, hh⟩
      · cases h1
    obtain ⟨cs, t, fz, hh⟩ := hb
    have h3 : cs[j]? = some (.int .u8 (l[j].toNat : Int)) := by simpa [World.cell?, hh] using h1
    have hlt : j < cs.size := (Array.getElem?_eq_some_iff.1 h3).1
    have hset : (w.setCell ⟨b, k, none⟩ (.int .u8 (c.toNat : Int))).heap[b]? = some (.cells (cs.setIfInBounds k (.int .u8 (c.toNat : Int))) t fz) := by
      simp [World.setCell, Array.getElem?_modify, hh]
    simp only [World.cell?, hset]
    by_cases hjk : k = j
    · subst hjk
      simp [hlt]
    · simp [hjk, h3]
  · simp only [List.length_set] at hj
    have h1 := h.free j hj
    simp only [World.frozen?, World.setCell, Array.getElem?_modify] at h1 ⊢
    simp only [if_true]
    cases hw : w.heap[b]? with
    | none => simp
    | some o =>
      rw [hw] at h1
      cases o <;> simp at h1 ⊢
      all_goals exact h1
/-- 'string(b)'. -/
theorem ByteRow.back {P : Program} {b : Nat} {l : List UInt8} {w : World} (h : ByteRow b l w) (src dst e : TypeId) (cap : Nat) (hs : P.underlying src = some (.slice e)) (he : P.underlying e = some (.int .u8)) (hd : P.underlying dst = some .string) :
    (convert src dst (.slice (some ⟨b, 0, none⟩) l.length cap)).run P w = .ok (.string ⟨⟨l⟩⟩) w := by
  refine run_convert_bytes_back w src dst e _ cap l hs he hd fun j hj => ?_
  have ha : (⟨b, 0, none⟩ : Addr).add j = ⟨b, j, none⟩ := by unfold Addr.add; split <;> simp_all
  rw [ha]
  exact h.cell j hj
end Go.Proofs.Ytkgieaokckidmaa
