/-
  What is proved: laws for slices that a call has made itself: append of one element, []byte to string. Over any program. Conditions: the new length fits.
-/
import Derived.Test.YtkgieaokckidmaaBase
namespace Go.Proofs
theorem Try.infoU8 : (Try.prog.info? 5).map (fun i => (i.zero, i.size, i.bytes)) = some (some (.int .u8 0), 1, 1) := by kernel_rfl
end Go.Proofs
namespace Go.Proofs.Ytkgieaokckidmaa
open Go.RowKit

theorem grown_trans_alloc {W w' : World} {o : Obj} {row : Option Nat} (h : (W.alloc o).grownBy w' row) : W.grownBy w' row :=
  ⟨h.os, h.tape, h.output, Nat.le_trans (by simp) h.size, fun i hi hne => (h.block i (by simp; omega) hne).trans (Below.heap_alloc W o i hi)⟩

/-- 'append(s, x)', one element of one cell or several. -/
theorem wpList_app1 {P : Program} {ops : Array Oper} {rest : List Oper} {o : Oper} {a : Act} {Q : Exit → Act → World → Prop} {w : World} (hgd : o.guard = none) (s x : Operand) (t : TypeId)
    (ho : o.op = .call { callee := .builtin .append, args := #[s, x], argTypes := #[t, t] })
    (base : Nat) (e : TypeId) (i : TypeInfo) (z : Value) (size bytes : Nat) (ht : P.underlying t = some (.slice e)) (hi : P.info? e = some i) (hz : i.zero = some z)
    (hsize : i.size = size) (hby : i.bytes = bytes) (hzs : z.cells.size = size) (hsz : 0 < size)
    (v : Value) (n : Nat) (xs : List Value) (hs : a.eval s = v) (W : World) (news : List Value) (hw : w = W.alloc (.cells (Array.mk news) e)) (hown : W.ownsRow base e size v n xs)
    (hx : a.eval x = .slice (some ⟨W.heap.size, 0, none⟩) 1 1) (hl : news.length = size) (h1 : ∀ u ∈ news, u.oneCell' = true)
    (h63 : n + 1 ≤ maxLen) (hbytes : (n + 1) * bytes ≤ 140737488355328) (hbase : base ≤ W.heap.size)
    (h : ∀ v' w', w'.ownsRow base e size v' (n + 1) (xs ++ news) → W.grownBy w' v.ownBlock → v' ≠ .slice none 0 0 → wpList P ops Q rest (a.put o.dst v') w') : wpList P ops Q (o :: rest) a w := by
  subst hw
  refine wpList_append_own _ hgd s x t ho base e i z size bytes ht hi hz hsize hby hzs hsz v n xs hs (hown.alloc _) _ 1 1 news hx (by simpa using hl) ?_ h1 h63 hbytes (by simp; omega) ?_
  · intro j u hj
    have hjl := (List.getElem?_eq_some_iff.1 hj).1
    have : (⟨W.heap.size, 0, none⟩ : Addr).add j = ⟨W.heap.size, j, none⟩ := by unfold Addr.add; split <;> simp_all
    rw [this]
    have hh : (W.alloc (.cells (Array.mk news) e)).heap[W.heap.size]? = some (.cells (Array.mk news) e) := heap_alloc_new W _
    simp only [World.cell?, hh]
    simpa using hj
  · intro v' w' h1 h2 h3
    exact h v' w' h1 (grown_trans_alloc h2) (fun e => by simp [h3] at e)

/-- 'string(b)', b the call's own. -/
theorem run_conv_own {P : Program} {w : World} {src dst e : TypeId} {B n : Nat} {v : Value} {l : List UInt8} (hs : P.underlying src = some (.slice e)) (he : P.underlying e = some (.int .u8)) (hd : P.underlying dst = some .string)
    (h : w.ownsRow B e 1 v n (Lib.byteCells l)) : (convert src dst v).run P w = .ok (.string ⟨⟨l⟩⟩) w := by
  obtain ⟨hl, h⟩ := h
  rw [Lib.byteCells_length] at hl
  rcases h with ⟨rfl, h0⟩ | ⟨g, cap, cur, rfl, _, hg, hn, _, hc, htk⟩
  · have : l = [] := List.eq_nil_of_length_eq_zero (by omega)
    subst this
    exact run_convert_bytes_nil w src e hs he 0 0 dst hd
  · have hn' : n = l.length := by omega
    subst hn'
    refine run_convert_bytes_back w src dst e _ cap l hs he hd fun j hj => ?_
    have ha : (⟨g, 0, none⟩ : Addr).add j = ⟨g, j, none⟩ := by unfold Addr.add; split <;> simp_all
    rw [ha]
    simp only [World.cell?, hg]
    have h1 : (cur.toList.take (l.length * 1))[j]? = (Lib.byteCells l)[j]? := by rw [htk]
    rw [List.getElem?_take, if_pos (by omega)] at h1
    simp [Lib.byteCells, hj] at h1
    simpa using h1
/-- Behind an append to a slice of the call's own, all that is below its base stands. -/
theorem below_grown {B : Nat} {a w w' : World} {e : TypeId} {size n : Nat} {v : Value} {xs : List Value} (h : Below B a w) (hB : B ≤ w.heap.size) (hown : w.ownsRow B e size v n xs) (hg : w.grownBy w' v.ownBlock) : Below B a w' :=
  h.grown hg hB fun k hk => (hown.lt k hk).1

/-- A []byte of the call's own, from block B on, that holds the bytes l. -/
def OwnB (B : Nat) (v : Value) (l : List UInt8) (w : World) : Prop := w.ownsRow B 5 1 v l.length (Lib.byteCells l)
theorem OwnB.nil (B : Nat) (w : World) : OwnB B (.slice none 0 0) [] w := World.ownsRow_nil _ _ _ _
theorem OwnB.drewN {B : Nat} {v : Value} {l : List UInt8} {w : World} (h : OwnB B v l w) (n : Nat) : OwnB B v l (w.drewN n) := h
theorem OwnB.below {B : Nat} {v : Value} {l : List UInt8} {w w' : World} (h : OwnB B v l w) (k : Below w.heap.size w w') : OwnB B v l w' := by
  refine World.ownsRow.kept h (row := none) ⟨k.os, k.tape, k.output, k.size, fun i hi _ => k.block i hi⟩ ?_
  cases v.ownBlock with
  | none => exact .inl rfl
  | some g => exact .inr (by simp)
/-- 'append(b, c)'. -/
theorem app_byte {ops : Array Oper} {rest : List Oper} {o : Oper} {a : Act} {Q : Exit → Act → World → Prop} {w : World} (hgd : o.guard = none) (s x : Operand)
    (ho : o.op = .call { callee := .builtin .append, args := #[s, x], argTypes := #[33, 33] })
    {B : Nat} {v : Value} {l : List UInt8} (c : UInt8) (n : Int) (W : World) (hs : a.eval s = v) (hw : w = W.alloc (.cells #[.int .u8 n] 5)) (hn : n = (c.toNat : Int)) (hown : OwnB B v l W)
    (hx : a.eval x = .slice (some ⟨W.heap.size, 0, none⟩) 1 1) (hlen : l.length + 1 ≤ 140737488355328) (hbase : B ≤ W.heap.size)
    (h : ∀ v' w', OwnB B v' (l ++ [c]) w' → Below B W w' → wpList Try.prog ops Q rest (a.put o.dst v') w') : wpList Try.prog ops Q (o :: rest) a w := by
  obtain ⟨i0, hi, hz0, hz1, hz2⟩ := info_parts Try.infoU8
  subst hn
  refine wpList_app1 hgd s x 33 ho B 5 i0 (.int .u8 0) 1 1 Try.underlying33 hi hz0 hz1 hz2 rfl (by decide) v l.length _ hs W [.int .u8 c.toNat] hw hown hx rfl ?_ (by unfold maxLen; omega) (by omega) hbase ?_
  · intro u hu; simp at hu; subst hu; rfl
  · intro v' w' h1 h2 _
    refine h v' w' ?_ (below_grown (Below.refl _ _) hbase hown h2)
    unfold OwnB
    rw [Lib.byteCells_append, List.length_append]
    exact h1
/-- 'string(b)'. -/
theorem conv_byte {B : Nat} {v : Value} {l : List UInt8} {w : World} (h : OwnB B v l w) : (convert 33 9 v).run Try.prog w = .ok (.string ⟨⟨l⟩⟩) w :=
  run_conv_own (P := Try.prog) Try.underlying33 Try.underlying5 Try.underlying9 h
end Go.Proofs.Ytkgieaokckidmaa
