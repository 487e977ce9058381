/-
  What is proved: base.Plain, through strings.NewReplacer, sync.Once and a table of bytes: a contract. Condition: texts of at most 100000 bytes.
-/
import Derived.Test.YtkgieaokckidmaaBasO
import Derived.Test.YtkgieaokckidmaaBasX
import Derived.Laws.NewBlocks
namespace Go.Proofs.Ytkgieaokckidmaa
open Go.RowKit

theorem ByteRow.setCell {b : Nat} {l : List UInt8} {w : World} (h : ByteRow b l w) (a : Addr) (hne : a.block ≠ b) (v : Value) : ByteRow b l (w.setCell a v) :=
  ⟨fun j hj => (World.cell?_setCell_other _ a ⟨b, j, none⟩ _ (fun e => hne (by rw [e]))).trans (h.cell j hj), fun j hj => by simpa using h.free j hj⟩
theorem IsTab.setCell {b : Nat} {w : World} (h : IsTab b w) (a : Addr) (hne : a.block ≠ b) (v : Value) : IsTab b (w.setCell a v) := by
  obtain ⟨l, hr, hl, hs⟩ := h
  exact ⟨l, hr.setCell a hne v, hl, hs⟩
theorem IsTab.drew {b : Nat} {w : World} (h : IsTab b w) : IsTab b w.drew := by
  obtain ⟨l, hr, hl, hs⟩ := h
  exact ⟨l, hr.drew, hl, hs⟩
theorem cellZ {w : World} {t : TypeId} {cs : Array Value} {b : Nat} (h : w.heap[b]? = some (.cells cs t)) (i : Nat) : w.cell? ⟨b, i, none⟩ = cs[i]? := by
  simp [World.cell?, h]
theorem frzZ {w : World} {t : TypeId} {cs : Array Value} {b : Nat} (h : w.heap[b]? = some (.cells cs t)) (i : Nat) : w.frozen? ⟨b, i, none⟩ = false := by
  simp only [World.frozen?, h]
  simp
/-- What the table's pointer is. -/
def tabV (g : Nat) : Value := .iface 85 (.pointer (some ⟨g, 0, none⟩))
/-- Behind buildOnce. -/
def Built (pb : Nat) (w : World) (e : Ending) (w' : World) : Prop :=
  e = .returned (.tuple #[]) ∧ ∃ wB, IsTab w.heap.size wB ∧ w.heap.size < wB.heap.size ∧ Ext w wB ∧ w' = (wB.setCell ⟨pb, 3, none⟩ (tabV w.heap.size)).setCell ⟨pb, 4, none⟩ (.slice none 0 0)
set_option maxRecDepth 100000 in
set_option maxHeartbeats 1600000 in
theorem once_any (pb ob cap : Nat) (x3 : Value) (w : World) (hpb : pb < w.heap.size) (hob : ob < w.heap.size) (c3 : w.cell? ⟨pb, 3, none⟩ = some x3) (c4 : w.cell? ⟨pb, 4, none⟩ = some (.slice (some ⟨ob, 0, none⟩) 4 cap))
    (f3 : w.frozen? ⟨pb, 3, none⟩ = false) (f4 : w.frozen? ⟨pb, 4, none⟩ = false)
    (h0 : w.cell? ⟨ob, 0, none⟩ = some (.string ⟨⟨[45]⟩⟩)) (h1 : w.cell? ⟨ob, 1, none⟩ = some (.string ⟨⟨[43]⟩⟩)) (h2 : w.cell? ⟨ob, 2, none⟩ = some (.string ⟨⟨[95]⟩⟩)) (h3 : w.cell? ⟨ob, 3, none⟩ = some (.string ⟨⟨[47]⟩⟩)) :
    Calls Try.prog 27 #[.pointer (some ⟨pb, 0, none⟩)] w (Built pb w) := by
  go_enter Try.func27, Try.ntmps27
  go_wp2_with (go_at_call 32; refine (build_any pb ob cap w hob c4 h0 h1 h2 h3).mono ?_; rintro e wB ⟨rfl, hT, hsz, he⟩; have d3 := (he.cell (p := ⟨pb, 3, none⟩) hpb).trans c3; have d4 := (he.cell (p := ⟨pb, 4, none⟩) hpb).trans c4; have g3 := (he.frozen (p := ⟨pb, 3, none⟩) hpb).trans f3; have g4 := (he.frozen (p := ⟨pb, 4, none⟩) hpb).trans f4)
  go_end0
  exact ⟨rfl, _, hT, hsz, he, rfl⟩
/-- A replacer that is not yet built. -/
structure Raw (pb ob cap : Nat) (w : World) : Prop where
  ne : pb ≠ ob
  pl : pb < w.heap.size
  ol : ob < w.heap.size
  c0 : w.cell? ⟨pb, 0, none⟩ = some (.int .u32 0)
  c1 : w.cell? ⟨pb, 1, none⟩ = some (.int .i32 0)
  c3 : ∃ x, w.cell? ⟨pb, 3, none⟩ = some x
  c4 : w.cell? ⟨pb, 4, none⟩ = some (.slice (some ⟨ob, 0, none⟩) 4 cap)
  fr : ∀ j, w.frozen? ⟨pb, j, none⟩ = false
  s0 : w.cell? ⟨ob, 0, none⟩ = some (.string ⟨⟨[45]⟩⟩)
  s1 : w.cell? ⟨ob, 1, none⟩ = some (.string ⟨⟨[43]⟩⟩)
  s2 : w.cell? ⟨ob, 2, none⟩ = some (.string ⟨⟨[95]⟩⟩)
  s3 : w.cell? ⟨ob, 3, none⟩ = some (.string ⟨⟨[47]⟩⟩)
/-- A replacer that is built. -/
def Ready (pb : Nat) (w : World) (e : Ending) (w' : World) : Prop :=
  e = .returned (.tuple #[]) ∧ ∃ g, w.heap.size ≤ g ∧ g < w'.heap.size ∧ IsTab g w' ∧ w'.cell? ⟨pb, 3, none⟩ = some (tabV g) ∧ Below pb w w'
set_option maxRecDepth 100000 in
set_option maxHeartbeats 1600000 in
theorem slow_any (pb ob cap : Nat) (w : World) (R : Raw pb ob cap w) :
    Calls Try.prog 31 #[.pointer (some ⟨pb, 0, none⟩), .func (.func 27) #[.pointer (some ⟨pb, 0, none⟩)] #[]] w (Ready pb w) := by
  obtain ⟨hne, hpl, hol, c0, c1, ⟨x3, c3⟩, c4, fr, s0, s1, s2, s3⟩ := R
  have oth : ∀ j v, (w.setCell ⟨pb, 1, none⟩ v).cell? ⟨ob, j, none⟩ = w.cell? ⟨ob, j, none⟩ := fun j v => World.cell?_setCell_other _ ⟨pb, 1, none⟩ ⟨ob, j, none⟩ _ (by simp [hne])
  have hl := run_call_load (P := Try.prog) Try.func34 (by kernel_rfl) (by kernel_rfl) (by kernel_rfl) .u32 (by kernel_rfl) (w := w.setCell ⟨pb, 1, none⟩ (.int .i32 1)) (a := ⟨pb, 0, none⟩) (x := 0) ((World.cell?_setCell_other _ ⟨pb, 1, none⟩ ⟨pb, 0, none⟩ _ (by simp)).trans c0)
  have hnot : ∀ (x : Bool) (w : World), (Op.unary .not (.bool x)).run Try.prog w = .ok (.bool (!x)) w := fun _ _ => rfl
  have f1 := fr 1
  have hbo := once_any pb ob cap x3 (w.setCell ⟨pb, 1, none⟩ (.int .i32 1)) (by simpa using hpl) (by simpa using hol) ((World.cell?_setCell_other _ ⟨pb, 1, none⟩ ⟨pb, 3, none⟩ _ (by simp)).trans c3) ((World.cell?_setCell_other _ ⟨pb, 1, none⟩ ⟨pb, 4, none⟩ _ (by simp)).trans c4) (by simp [fr 3]) (by simp [fr 4]) ((oth 0 _).trans s0) ((oth 1 _).trans s1) ((oth 2 _).trans s2) ((oth 3 _).trans s3)
  have HF := Lib.hid fr
  have HBO := Lib.hid hbo
  have HOT := Lib.hid oth
  clear oth hbo fr
  go_enter_defers Try.func31, Try.ntmps31
  go_wp2_with (go_at_call 35; refine (lock_free ⟨pb, 1, none⟩ _ c1 f1).mono ?_; rintro e w' ⟨rfl, rfl⟩)
  go_wp2_with (first | (go_at_call 27; refine HBO.out.mono ?_; rintro e w' ⟨rfl, wB, hT, hsz, he, rfl⟩) | go_in)
  have hpl1 : pb < (w.setCell ⟨pb, 1, none⟩ (.int .i32 1)).heap.size := by simpa using hpl
  have d0 : wB.cell? ⟨pb, 0, none⟩ = some (.int .u32 0) := (he.cell (p := ⟨pb, 0, none⟩) hpl1).trans ((World.cell?_setCell_other _ ⟨pb, 1, none⟩ ⟨pb, 0, none⟩ _ (by simp)).trans c0)
  have d1 : wB.cell? ⟨pb, 1, none⟩ = some (.int .i32 1) := (he.cell (p := ⟨pb, 1, none⟩) hpl1).trans (World.cell?_setCell_same w _ _ c1)
  have d3 : ∃ x, wB.cell? ⟨pb, 3, none⟩ = some x := ⟨_, (he.cell (p := ⟨pb, 3, none⟩) hpl1).trans ((World.cell?_setCell_other _ ⟨pb, 1, none⟩ ⟨pb, 3, none⟩ _ (by simp)).trans c3)⟩
  have z : ∀ j, wB.frozen? ⟨pb, j, none⟩ = false := fun j => (he.frozen (p := ⟨pb, j, none⟩) hpl1).trans (by simp [HF.out])
  have hbel : Below pb w wB := ((Below.refl pb w).setCell (Nat.le_refl _) _).trans (he.mono (Nat.le_of_lt hpl1))
  have hT2 : IsTab w.heap.size wB := by simpa using hT
  have hsz2 : w.heap.size < wB.heap.size := by simpa using hsz
  clear hT hsz he hl hnot HBO HOT
  go_wp2
  refine leaves_cons (f := 37) (args := #[.pointer (some ⟨pb, 0, none⟩), .bool true]) (by simp) (by simp [go_sem]) ?_
  refine (store_deferred ⟨pb, 0, none⟩ (.int .u32 0) .returning _ ?_ (by simp [z])).mono ?_
  · exact (World.cell?_setCell_other _ ⟨pb, 4, none⟩ ⟨pb, 0, none⟩ _ (by simp)).trans ((World.cell?_setCell_other _ ⟨pb, 3, none⟩ ⟨pb, 0, none⟩ _ (by simp)).trans d0)
  rintro e u' w'' ⟨rfl, rfl, rfl⟩
  refine leaves_cons (f := 36) (args := #[.pointer (some ⟨pb, 1, none⟩)]) (by simp [settle]) (by simp [go_sem]) ?_
  refine (unlock_deferred ⟨pb, 1, none⟩ _ _ ?_ (by simp [z])).mono ?_
  · refine (World.cell?_setCell_other _ ⟨pb, 0, none⟩ ⟨pb, 1, none⟩ _ (by simp)).trans ?_
    rw [World.cell?_drew]
    exact (World.cell?_setCell_other _ ⟨pb, 4, none⟩ ⟨pb, 1, none⟩ _ (by simp)).trans ((World.cell?_setCell_other _ ⟨pb, 3, none⟩ ⟨pb, 1, none⟩ _ (by simp)).trans d1)
  rintro e u' w'' ⟨rfl, rfl, rfl⟩
  simp [Leaves, settle, results, Try.results31]
  have hnp : ∀ j, (⟨pb, j, none⟩ : Addr).block ≠ w.heap.size := fun j => by simp; omega
  refine ⟨rfl, w.heap.size, Nat.le_refl _, by simpa using hsz2, ?_, ?_, ?_⟩
  · exact ((((hT2.setCell _ (hnp 3) _).setCell _ (hnp 4) _).drew).setCell _ (hnp 0) _).setCell _ (hnp 1) _
  · obtain ⟨x, d3⟩ := d3
    refine (World.cell?_setCell_other _ ⟨pb, 1, none⟩ ⟨pb, 3, none⟩ _ (by simp)).trans ?_
    refine (World.cell?_setCell_other _ ⟨pb, 0, none⟩ ⟨pb, 3, none⟩ _ (by simp)).trans ?_
    rw [World.cell?_drew]
    refine (World.cell?_setCell_other _ ⟨pb, 4, none⟩ ⟨pb, 3, none⟩ _ (by simp)).trans ?_
    exact World.cell?_setCell_same _ _ _ d3
  · exact ((((hbel.setCell (Nat.le_refl _) _).setCell (Nat.le_refl _) _).drew).setCell (Nat.le_refl _) _).setCell (Nat.le_refl _) _
set_option maxRecDepth 100000 in
set_option maxHeartbeats 1600000 in
theorem do_any (pb ob cap : Nat) (w : World) (R : Raw pb ob cap w) :
    Calls Try.prog 26 #[.pointer (some ⟨pb, 0, none⟩), .func (.func 27) #[.pointer (some ⟨pb, 0, none⟩)] #[]] w (Ready pb w) := by
  have hl := run_call_load (P := Try.prog) Try.func34 (by kernel_rfl) (by kernel_rfl) (by kernel_rfl) .u32 (by kernel_rfl) R.c0
  have hnot : ∀ (x : Bool) (w : World), (Op.unary .not (.bool x)).run Try.prog w = .ok (.bool (!x)) w := fun _ _ => rfl
  go_enter Try.func26, Try.ntmps26
  go_wp2_with (first | (go_at_call 31; refine (slow_any pb ob cap w R).mono ?_; rintro e w' ⟨rfl, hR⟩) | go_in)
  go_end0
  exact ⟨rfl, hR⟩
set_option maxRecDepth 100000 in
set_option maxHeartbeats 1600000 in
theorem replace_any (pb ob cap : Nat) (l : List UInt8) (w : World) (R : Raw pb ob cap w) (hs : l.length ≤ 100000) :
    Calls Try.prog 23 #[.pointer (some ⟨pb, 0, none⟩), .string ⟨⟨l⟩⟩] w fun e w' => e = .returned (.string ⟨⟨plnL l⟩⟩) ∧ Below pb w w' := by
  have hmf : ∀ (fn : Fn) (first cap : Array Value) (w : World), (Instr.makeFunc fn first cap).run Try.prog w = .ok (.func fn first cap) w := fun _ _ _ _ => rfl
  go_enter Try.func23, Try.ntmps23
  go_wp2_with (first | (go_at_call 26; refine (do_any pb ob cap w R).mono ?_; rintro e w1 ⟨rfl, g, hg1, hg2, hT, h3, hb⟩; unfold tabV at h3) | (go_at_call 92; refine (byteRepl_any g l w1 hg2 hT hs).mono ?_; rintro e w2 ⟨rfl, he⟩))
  go_ret
  exact ⟨rfl, hb.trans (he.mono (Nat.le_trans (Nat.le_of_lt R.pl) (Nat.le_trans hg1 (Nat.le_of_lt hg2))))⟩
/-- The four texts. -/
def fourC : List Value := [.string ⟨⟨[45]⟩⟩, .string ⟨⟨[43]⟩⟩, .string ⟨⟨[95]⟩⟩, .string ⟨⟨[47]⟩⟩]
theorem infoStrP : (Try.prog.info? 9).map (fun i => (i.zero, i.size, i.bytes)) = some (some (.string ByteArray.empty), 1, 16) := by kernel_rfl
theorem own_four {B : Nat} {v : Value} {w : World} (h : w.ownsRow B 9 1 v (0 + 4) ([] ++ fourC)) : ∃ ob cap, v = .slice (some ⟨ob, 0, none⟩) 4 cap ∧ B ≤ ob ∧ ob < w.heap.size ∧ ∀ j u, fourC[j]? = some u → w.cell? ⟨ob, j, none⟩ = some u := by
  obtain ⟨_, h⟩ := h
  rcases h with ⟨_, h0⟩ | ⟨g, cap, cur, rfl, hB, hg, hn, _, hc, htk⟩
  · omega
  · refine ⟨g, cap, rfl, hB, (Array.getElem?_eq_some_iff.1 hg).1, fun j u hj => ?_⟩
    have hjl : j < 4 := by
      have := (List.getElem?_eq_some_iff.1 hj).1
      simpa [fourC] using this
    simp only [World.cell?, hg]
    have h1 : (cur.toList.take ((0 + 4) * 1))[j]? = ([] ++ fourC)[j]? := by rw [htk]
    rw [List.getElem?_take, if_pos (by omega), List.nil_append, hj] at h1
    simpa using h1
/-- A new replacer. -/
def NewR (w : World) (e : Ending) (w' : World) : Prop := ∃ pb ob cap, e = .returned (.pointer (some ⟨pb, 0, none⟩)) ∧ w.heap.size ≤ pb ∧ Raw pb ob cap w' ∧ Ext w w'
set_option maxRecDepth 100000 in
set_option maxHeartbeats 1600000 in
theorem newRepl_any (o0 : Nat) (w : World) (ho : o0 < w.heap.size) (hc : Hid (∀ j u, fourC[j]? = some u → w.cell? ⟨o0, j, none⟩ = some u)) :
    Calls Try.prog 22 #[.slice (some ⟨o0, 0, none⟩) 4 4] w (NewR w) := by
  obtain ⟨i0, hi, hz0, hz1, hz2⟩ := info_parts infoStrP
  have HI := Lib.hid hi
  have HZ0 := Lib.hid hz0
  have HZ1 := Lib.hid hz1
  have HZ2 := Lib.hid hz2
  clear hi hz0 hz1 hz2
  go_enter Try.func22, Try.ntmps22
  go_wp2_with (at_builtin; refine wpList_append_own _ rfl _ _ 53 rfl w.heap.size 9 i0 (.string ByteArray.empty) 1 16 Try.underlying53 HI.out HZ0.out HZ1.out HZ2.out rfl (by decide) (.slice none 0 0) 0 [] rfl (World.ownsRow_nil _ _ _ _) ⟨o0, 0, none⟩ 4 4 fourC rfl rfl (fun j u hj => by rw [Go.WideShapes.add_plain, Nat.zero_add]; exact hc.out j u hj) (by decide) (by unfold maxLen; omega) (by omega) (Nat.le_refl _) ?_; intro v' w1 hown hgr _; obtain ⟨ob, cap, rfl, hob, hol, hcc⟩ := own_four hown; have HCC := Lib.hid hcc; clear hcc hown)
  go_ret
  have hb1 : Ext w w1 := (Below.refl w.heap.size w).grown hgr (Nat.le_refl _) (fun j hj => by cases hj)
  have hh := heap_alloc_new w1 (.cells #[Value.int .u32 0, Value.int .i32 0, Value.int .u32 0, .nilIface, .slice (some ⟨ob, 0, none⟩) 4 cap] 68)
  have ho2 : ∀ j u, fourC[j]? = some u → (w1.alloc (.cells #[Value.int .u32 0, Value.int .i32 0, Value.int .u32 0, .nilIface, .slice (some ⟨ob, 0, none⟩) 4 cap] 68)).cell? ⟨ob, j, none⟩ = some u := fun j u hj => by
    rw [World.cell?_alloc_past _ _ _ hol]
    exact HCC.out j u hj
  refine ⟨w1.heap.size, ob, cap, rfl, hb1.size, ⟨by omega, by simp, by simp; omega, cellZ hh 0, cellZ hh 1, ⟨_, cellZ hh 3⟩, cellZ hh 4, frzZ hh, ho2 0 _ rfl, ho2 1 _ rfl, ho2 2 _ rfl, ho2 3 _ rfl⟩, hb1.alloc hb1.size _⟩
set_option maxRecDepth 100000 in
set_option maxHeartbeats 1600000 in
theorem plain_any (l : List UInt8) (w : World) (hs : l.length ≤ 100000) :
    Calls Try.prog 12 #[.string ⟨⟨l⟩⟩] w fun e w' => e = .returned (.string ⟨⟨plnL l⟩⟩) ∧ Ext w w' := by
  have hh := heap_alloc_new w (.cells ⟨fourC⟩ 9)
  have hc : Hid (∀ j u, fourC[j]? = some u → (w.alloc (.cells ⟨fourC⟩ 9)).cell? ⟨w.heap.size, j, none⟩ = some u) := Lib.hid (fun j u hj => by
    rw [cellZ hh j, ← hj]
    simp)
  have hlt : w.heap.size < (w.alloc (.cells ⟨fourC⟩ 9)).heap.size := by simp
  have HN := Lib.hid (newRepl_any w.heap.size (w.alloc (.cells ⟨fourC⟩ 9)) hlt hc)
  clear hh hc hlt
  go_enter Try.func12, Try.ntmps12
  go_wp2_with (first
    | (go_at_call 22; refine (HN.out).mono ?_; rintro e w1 ⟨pb, ob, cap, rfl, hpb, R, he⟩)
    | (go_at_call 23; refine (replace_any pb ob cap l w1 R hs).mono ?_; rintro e w2 ⟨rfl, hb⟩))
  go_ret
  have hb0 : Below w.heap.size w w1 := ((Below.refl w.heap.size w).alloc (Nat.le_refl _) _).trans (he.mono (by simp))
  exact ⟨rfl, hb0.trans (hb.mono (by simp at hpb; omega))⟩
end Go.Proofs.Ytkgieaokckidmaa
