/-
  What is proved: the program's cutting at spaces: contracts. Condition: texts of at most 100000 bytes.
-/
import Derived.Test.YtfaomejdoljfnaaDoorAsc
import Derived.Deep.AppendLies
namespace Go.Proofs.YtfaomejdoljfnaaDoor
open Go.RowKit

/-- 'append(b, s)' at a step of a region that draws its order. -/
theorem step_app_str {ops : Array Oper} {o : Oper} {a : Act} {K : Act → World → Prop} {Q : Exit → Act → World → Prop} {E : Prop} {w : World} (hgd : o.guard = none) (s x : Operand)
    (ho : o.op = .call { callee := .builtin .append, args := #[s, x], argTypes := #[40, 40] })
    {B : Nat} {v : Value} {l : List (List UInt8)} (c : List UInt8) (n : ByteArray) (W : World) (hs : a.eval s = v) (hw : w = W.alloc (.cells #[.string n] 9)) (hn : n = ⟨⟨c⟩⟩) (hown : OwnS B v l W)
    (hx : a.eval x = .slice (some ⟨W.heap.size, 0, none⟩) 1 1) (hlen : l.length + 1 ≤ 1000000000) (hbase : B ≤ W.heap.size)
    (h : ∀ g cap w', OwnS B (.slice (some ⟨g, 0, none⟩) (l.length + 1) cap) (l ++ [c]) w' → Below B W w' → K (a.put o.dst (.slice (some ⟨g, 0, none⟩) (l.length + 1) cap)) w') :
    if Region.wanted o (yielded ops a.tmps) = true then Oper.wp Tryd.prog o a w K Q else E := by
  obtain ⟨i0, hi, hz0, hz1, hz2⟩ := info_parts Tryd.infoStr
  subst hn hw
  refine step_append_lies _ hgd s x 40 ho B 9 i0 (.string ByteArray.empty) 1 16 Tryd.underlying40 hi hz0 hz1 hz2 rfl (by decide) v l.length (strCells l) hs (World.ownsRow.alloc hown _) ⟨W.heap.size, 0, none⟩ 1 1 [.string ⟨⟨c⟩⟩] hx rfl (World.news_of_block (heap_alloc_new W _)) ?_ (by decide) (by unfold maxLen; omega) (by omega) (by simp; omega) _ rfl ?_
  · intro u hu; simp at hu; subst hu; rfl
  · intro g cap w' h1 h2 _ _
    refine h _ _ w' ?_ (below_grown (Below.refl _ _) hbase hown (grown_trans_alloc h2))
    unfold OwnS
    rw [strCells_app, List.length_append]
    exact h1
/-- What holds between two calls of the closure: the three captured variables' blocks, the list. -/
structure FS (w0 : World) (l : List UInt8) (out : List (List UInt8)) (f : Nat) (v : Value) (w : World) : Prop where
  ext : Ext w0 w
  big : w0.heap.size + 3 ≤ w.heap.size
  str : w.cell? ⟨w0.heap.size, 0, none⟩ = some (.string ⟨⟨l⟩⟩)
  lst : w.cell? ⟨w0.heap.size + 1, 0, none⟩ = some v
  lstF : w.frozen? ⟨w0.heap.size + 1, 0, none⟩ = false
  frm : w.cell? ⟨w0.heap.size + 2, 0, none⟩ = some (.int .i64 f)
  frmF : w.frozen? ⟨w0.heap.size + 2, 0, none⟩ = false
  own : OwnS (w0.heap.size + 3) v out w
/-- The place anew. -/
theorem FS.place {w0 w : World} {l : List UInt8} {out : List (List UInt8)} {f : Nat} {v : Value} (h : FS w0 l out f v w) (u : Nat) : FS w0 l out u v (w.setCell ⟨w0.heap.size + 2, 0, none⟩ (.int .i64 u)) where
  ext := h.ext.setCell (by show w0.heap.size ≤ w0.heap.size + 2; omega) _
  big := by rw [World.size_setCell]; exact h.big
  str := by rw [World.cell?_setCell_other _ _ _ _ (by simp)]; exact h.str
  lst := by rw [World.cell?_setCell_other _ _ _ _ (by simp)]; exact h.lst
  lstF := by rw [World.frozen?_setCell]; exact h.lstF
  frm := World.cell?_setCell_same _ _ _ h.frm
  frmF := by rw [World.frozen?_setCell]; exact h.frmF
  own := ownsRow_setCell_below h.own (by show w0.heap.size + 2 < w0.heap.size + 3; omega) _
/-- The list anew. -/
theorem FS.push {w0 w w' : World} {l : List UInt8} {out out' : List (List UInt8)} {f : Nat} {v v' : Value} (h : FS w0 l out f v w) (hb : Below (w0.heap.size + 3) w w') (h1 : OwnS (w0.heap.size + 3) v' out' w') : FS w0 l out' f v' (w'.setCell ⟨w0.heap.size + 1, 0, none⟩ v') where
  ext := (Below.trans h.ext (hb.mono (by omega))).setCell (by show w0.heap.size ≤ w0.heap.size + 1; omega) _
  big := by rw [World.size_setCell]; exact Nat.le_trans h.big hb.size
  str := by rw [World.cell?_setCell_other _ _ _ _ (by simp), hb.cell (by show w0.heap.size < w0.heap.size + 3; omega)]; exact h.str
  lst := World.cell?_setCell_same _ _ _ ((hb.cell (p := ⟨w0.heap.size + 1, 0, none⟩) (by show w0.heap.size + 1 < w0.heap.size + 3; omega)).trans h.lst)
  lstF := by rw [World.frozen?_setCell, hb.frozen (by show w0.heap.size + 1 < w0.heap.size + 3; omega)]; exact h.lstF
  frm := by rw [World.cell?_setCell_other _ _ _ _ (by simp), hb.cell (by show w0.heap.size + 2 < w0.heap.size + 3; omega)]; exact h.frm
  frmF := by rw [World.frozen?_setCell, hb.frozen (by show w0.heap.size + 2 < w0.heap.size + 3; omega)]; exact h.frmF
  own := ownsRow_setCell_below h1 (by show w0.heap.size + 1 < w0.heap.size + 3; omega) _
set_option maxHeartbeats 2000000 in
theorem cut_any (w0 : World) (l : List UInt8) (out : List (List UInt8)) (f u : Nat) (v : Value) (w : World) (h : FS w0 l out f v w) (hl : l.length < 100000) (hto : u ≤ l.length) (hft : f ≤ u) (ho : out.length ≤ 100001) :
    Calls Tryd.prog 23 #[.int .i64 u, .pointer (some ⟨w0.heap.size + 2, 0, none⟩), .pointer (some ⟨w0.heap.size + 1, 0, none⟩), .pointer (some ⟨w0.heap.size, 0, none⟩)] w fun e w' => e = .returned (.tuple #[]) ∧ ∃ v', FS w0 l (out ++ pieceL (cutL l f u)) (u + 1) v' w' := by
  have HP := Lib.hid (piece_cut (l := l) (i := f) hto)
  have H := h
  obtain ⟨hx, hbig, hs, hv, hvf, hf, hff, hown⟩ := h
  by_cases hlt : f < u
  · go_enter Tryd.func23, Tryd.ntmps23
    go_upto_region 1 with fail
    have hv2 : ∀ o, (w.alloc o).cell? ⟨w0.heap.size + 1, 0, none⟩ = some v := fun o => (((Below.refl w.heap.size w).alloc (Nat.le_refl _) o).cell (p := ⟨w0.heap.size + 1, 0, none⟩) (by show w0.heap.size + 1 < w.heap.size; omega)).trans hv
    go_region_law (refine step_app_str rfl _ _ rfl (cutL l f u) ⟨⟨cutL l f u⟩⟩ w.drew rfl rfl rfl hown rfl (by omega) (by simp; omega) ?_; intro g cap w' h1 hb2; have c1 := (hb2.cell (p := ⟨w0.heap.size + 1, 0, none⟩) (by show w0.heap.size + 1 < w0.heap.size + 3; omega)).trans hv; have f1 := (hb2.frozen (p := ⟨w0.heap.size + 1, 0, none⟩) (by show w0.heap.size + 1 < w0.heap.size + 3; omega)).trans hvf; have F := H.push (w' := w') ⟨hb2.os, hb2.tape, hb2.output, hb2.size, hb2.block⟩ h1; have c3 := F.frm; have f3 := F.frmF)
    all_goals
      go_wp2_with fail
      go_end0
      rw [HP.out, if_pos hlt]
      exact ⟨rfl, _, F.place (u + 1)⟩
  · go_enter Tryd.func23, Tryd.ntmps23
    go_wp2_with fail
    go_end0
    refine ⟨rfl, v, ?_⟩
    rw [HP.out, if_neg hlt, List.append_nil]
    exact H.place (u + 1)
end Go.Proofs.YtfaomejdoljfnaaDoor
