/-
  What is proved: strings.Replacer over two bytes for two bytes: its table: contracts. Conditions: the cells' values.
-/
import Derived.Test.YtkgieaokckidmaaBasL
import Derived.Test.YtkgieaokckidmaaRow
import Derived.Test.YtkgieaokckidmaaRows
import Derived.Handy
import Derived.Deep.WholeRow
namespace Go.Proofs.Ytkgieaokckidmaa
open Go.RowKit

theorem zero84 : Try.zeroCells84 = ⟨Lib.byteCells (List.replicate 256 0)⟩ := by kernel_rfl
theorem all84 : Try.zeroCells84.all (·.oneCell') = true := by kernel_rfl
theorem info84 : (Try.prog.info? 84).map (·.size) = some Try.zeroCells84.size := by kernel_rfl
theorem row_alloc (w : World) (l : List UInt8) (t : TypeId) : ByteRow w.heap.size l (w.alloc (.cells ⟨Lib.byteCells l⟩ t)) := by
  refine ⟨fun j hj => ?_, fun j hj => ?_⟩
  · have hh := heap_alloc_new w (.cells ⟨Lib.byteCells l⟩ t)
    simp only [World.cell?, hh]
    simp [Lib.byteCells, hj]
  · have hh := heap_alloc_new w (.cells ⟨Lib.byteCells l⟩ t)
    simp only [World.frozen?, hh]
    simp
theorem row_zero (w : World) : ByteRow w.heap.size (List.replicate 256 0) (w.alloc (.cells Try.zeroCells84 84)) := by
  rw [zero84]
  exact row_alloc w _ _
/-- So many bytes stand in a table at their own places. -/
def Fills (b k : Nat) (w : World) : Prop := ∃ l, ByteRow b l w ∧ l.length = 256 ∧ ∀ j, j < k → l[j]? = some (UInt8.ofNat j)
theorem Fills.spot {b k : Nat} {w : World} (h : Fills b k w) (j : Nat) (hj : j < 256) : (∃ v, w.cell? ⟨b, j, none⟩ = some v) ∧ w.frozen? ⟨b, j, none⟩ = false := by
  obtain ⟨l, hr, hl, _⟩ := h
  exact ⟨⟨_, hr.cell j (by omega)⟩, hr.free j (by omega)⟩
theorem Fills.step {b k : Nat} {w : World} (h : Fills b k w) (hk : k < 256) {n : Int} (hn : n = k) : Fills b (k + 1) (w.setCell ⟨b, k, none⟩ (.int .u8 n)) := by
  obtain ⟨l, hr, hl, hs⟩ := h
  have e : n = ((UInt8.ofNat k).toNat : Nat) := by rw [UInt8.toNat_ofNat']; omega
  rw [e]
  refine ⟨l.set k (UInt8.ofNat k), hr.set k (UInt8.ofNat k), by simpa using hl, fun j hj => ?_⟩
  by_cases hjk : k = j
  · subst hjk
    rw [List.getElem?_set_self (by omega)]
  · rw [List.getElem?_set_ne hjk]
    exact hs j (by omega)
/-- A table of the usual letters. -/
def IsTab (b : Nat) (w : World) : Prop := ∃ l, ByteRow b l w ∧ l.length = 256 ∧ ∀ c : UInt8, l[c.toNat]? = some (plnB c)
theorem Fills.done {b : Nat} {w : World} (h : Fills b 256 w) : IsTab b ((w.setCell ⟨b, 95, none⟩ (.int .u8 47)).setCell ⟨b, 45, none⟩ (.int .u8 43)) := by
  obtain ⟨l, hr, hl, hs⟩ := h
  refine ⟨(l.set 95 47).set 45 43, (hr.set 95 47).set 45 43, by simpa using hl, fun c => ?_⟩
  have hc := c.toNat_lt
  unfold plnB
  by_cases h1 : c = 45
  · subst h1
    rw [if_pos rfl]
    show ((l.set 95 47).set 45 43)[45]? = _
    rw [List.getElem?_set_self (by simp; omega)]
  · rw [if_neg h1]
    have n1 : (45 : Nat) ≠ c.toNat := fun e => h1 (UInt8.toNat.inj (by have : (45 : UInt8).toNat = 45 := rfl; omega))
    rw [List.getElem?_set_ne n1]
    by_cases h2 : c = 95
    · subst h2
      rw [if_pos rfl]
      show (l.set 95 47)[95]? = _
      rw [List.getElem?_set_self (by omega)]
    · rw [if_neg h2]
      have n2 : (95 : Nat) ≠ c.toNat := fun e => h2 (UInt8.toNat.inj (by have : (95 : UInt8).toNat = 95 := rfl; omega))
      rw [List.getElem?_set_ne n2, hs _ (by omega), UInt8.ofNat_toNat]
theorem IsTab.at {b : Nat} {w : World} (h : IsTab b w) (c : UInt8) : w.cell? ⟨b, c.toNat, none⟩ = some (.int .u8 ((plnB c).toNat : Nat)) := by
  obtain ⟨l, hr, hl, hs⟩ := h
  have hc := c.toNat_lt
  have h1 := hr.cell c.toNat (by omega)
  have h2 := hs c
  rw [List.getElem?_eq_getElem (by omega)] at h2
  rw [h1, Option.some.inj h2]
theorem IsTab.ext {b : Nat} {w w' : World} (h : IsTab b w) (hb : b < w.heap.size) (k : Ext w w') : IsTab b w' := by
  obtain ⟨l, hr, hl, hs⟩ := h
  exact ⟨l, hr.ext hb k, hl, hs⟩
set_option maxRecDepth 100000 in
set_option maxHeartbeats 1600000 in
theorem build_any (pb ob cap : Nat) (w : World) (hob : ob < w.heap.size) (ho : w.cell? ⟨pb, 4, none⟩ = some (.slice (some ⟨ob, 0, none⟩) 4 cap))
    (h0 : w.cell? ⟨ob, 0, none⟩ = some (.string ⟨⟨[45]⟩⟩)) (h1 : w.cell? ⟨ob, 1, none⟩ = some (.string ⟨⟨[43]⟩⟩)) (h2 : w.cell? ⟨ob, 2, none⟩ = some (.string ⟨⟨[95]⟩⟩)) (h3 : w.cell? ⟨ob, 3, none⟩ = some (.string ⟨⟨[47]⟩⟩)) :
    Calls Try.prog 32 #[.pointer (some ⟨pb, 0, none⟩)] w fun e w' => e = .returned (.iface 85 (.pointer (some ⟨w.heap.size, 0, none⟩))) ∧ IsTab w.heap.size w' ∧ w.heap.size < w'.heap.size ∧ Ext w w' := by
  have hst := run_storeCells_new (P := Try.prog) w 84 _ _ info84 rfl all84
  go_enter Try.func32, Try.ntmps32
  go_wp2
  go_rounds 3
  go_loopw [61] (fun i wr => ∃ k : Nat, k ≤ 256 ∧ i = .int .i64 k ∧ Fills w.heap.size k wr ∧ w.heap.size < wr.heap.size ∧ Below w.heap.size w wr) (fun i _ => 256 - (intOf i).toNat)
  case atStart => exact ⟨0, by omega, rfl, ⟨_, row_zero w, by simp, fun j hj => absurd hj (Nat.not_lt_zero _)⟩, by simp, (Below.refl _ _).alloc (Nat.le_refl _) _⟩
  case round =>
    clear hst
    obtain ⟨k, hk, rfl, hF, hsz, hb⟩ := hrel
    by_cases hlt : k < 256
    · obtain ⟨⟨v, hv⟩, hf⟩ := hF.spot k hlt
      go_wp2
      go_roundw
      case rel => exact ⟨k + 1, by omega, by go_num, hF.step hlt rfl, by simpa using hsz, hb.setCell (Nat.le_refl _) _⟩
      case measure => simp [intOf]; omega
    · obtain rfl : k = 256 := by omega
      obtain ⟨⟨v1, hv1⟩, hf1⟩ := hF.spot 45 (by omega)
      obtain ⟨⟨v2, hv2⟩, hf2⟩ := hF.spot 95 (by omega)
      have g0 := (hb.cell (p := ⟨ob, 0, none⟩) hob).trans h0
      have g1 := (hb.cell (p := ⟨ob, 1, none⟩) hob).trans h1
      have g2 := (hb.cell (p := ⟨ob, 2, none⟩) hob).trans h2
      have g3 := (hb.cell (p := ⟨ob, 3, none⟩) hob).trans h3
      have hne : ob ≠ w.heap.size := by omega
      have hne2 : w.heap.size ≠ ob := by omega
      clear h0 h1 h2 h3
      go_wp2
      go_rounds 3
      go_ret
      exact ⟨rfl, hF.done, by simpa using hsz, (hb.setCell (Nat.le_refl _) _).setCell (Nat.le_refl _) _⟩
/-- A text changed up to a place. -/
def mixL (l : List UInt8) (k : Nat) : List UInt8 := plnL (l.take k) ++ l.drop k
theorem mixL_len (l : List UInt8) (k : Nat) : (mixL l k).length = l.length := by simp [mixL, plnL]; omega
theorem mixL_succ (l : List UInt8) (k : Nat) (h : k < l.length) : mixL l (k + 1) = plnL (l.take k) ++ plnB l[k] :: l.drop (k + 1) := by
  unfold mixL
  rw [List.take_succ_eq_append_getElem h]
  unfold plnL
  rw [List.map_append, List.append_assoc]
  rfl
theorem mixL_same {l : List UInt8} {k : Nat} (h : k < l.length) (hc : plnB l[k] = l[k]) : mixL l (k + 1) = mixL l k := by
  rw [mixL_succ l k h, hc, mixL, List.drop_eq_getElem_cons h]
theorem mixL_set (l : List UInt8) (k : Nat) (h : k < l.length) : (mixL l k).set k (plnB l[k]) = mixL l (k + 1) := by
  have hl : (plnL (l.take k)).length = k := by simp [plnL]; omega
  rw [mixL_succ l k h]
  unfold mixL
  rw [List.set_append_right _ _ (by omega), hl, Nat.sub_self, List.drop_eq_getElem_cons h]
  rfl
theorem mixL_zero (l : List UInt8) : mixL l 0 = l := rfl
theorem mixL_all (l : List UInt8) : mixL l l.length = plnL l := by simp [mixL]
/-- The state of the loop. -/
def BufAt (l : List UInt8) (k B : Nat) (bv : Value) (w : World) : Prop :=
  (bv = .slice none 0 0 ∧ mixL l k = l) ∨ ∃ b cap, bv = .slice (some ⟨b, 0, none⟩) l.length cap ∧ B ≤ b ∧ b < w.heap.size ∧ ByteRow b (mixL l k) w
set_option maxRecDepth 100000 in
set_option maxHeartbeats 1600000 in
theorem byteRepl_any (g : Nat) (l : List UInt8) (w : World) (hg : g < w.heap.size) (hT : IsTab g w) (hs : l.length ≤ 100000) :
    Calls Try.prog 92 #[.pointer (some ⟨g, 0, none⟩), .string ⟨⟨l⟩⟩] w fun e w' => e = .returned (.string ⟨⟨plnL l⟩⟩) ∧ Ext w w' := by
  have qT : ∀ (w : World) (a : Option Addr) (n c n' c' : Nat), (binOp .eql 33 (.slice a n c) (.slice none n' c')).run Try.prog w = .ok (.bool a.isNone) w := fun w a n c n' c' => Lib.run_eql_slice_nil w _ _ a n c n' c' Try.underlying33
  go_enter Try.func92, Try.ntmps92
  go_wp2
  go_loopw [5, 6] (fun bv i wr => ∃ k : Nat, k ≤ l.length ∧ i = .int .i64 k ∧ BufAt l k w.heap.size bv wr ∧ w.heap.size ≤ wr.heap.size ∧ Below w.heap.size w wr) (fun _ i _ => l.length - (intOf i).toNat)
  case atStart => exact ⟨0, Nat.zero_le _, rfl, .inl ⟨rfl, rfl⟩, Nat.le_refl _, Below.refl _ _⟩
  case round =>
    obtain ⟨k, hk, rfl, hB, hsz, hb⟩ := hrel
    by_cases hlt : k < l.length
    · have hcl := (l[k]).toNat_lt
      have hcell := (hT.ext hg hb).at l[k]
      by_cases hc : plnB l[k] = l[k]
      · have hne : (((plnB l[k]).toNat : Int) != (l[k].toNat : Int)) = false := by rw [hc]; simp
        have HM := Lib.hid (mixL_same hlt hc)
        clear hc
        rcases hB with ⟨rfl, hm⟩ | ⟨b, cap, rfl, hb1, hb2, hrow⟩
        · have HM2 := Lib.hid hm
          clear hm
          go_wp2
          go_roundw
          case rel => exact ⟨k + 1, by omega, by go_num, .inl ⟨rfl, by rw [HM.out, HM2.out]⟩, hsz, hb⟩
          case measure => simp [intOf]; omega
        · go_wp2
          go_roundw
          case rel => exact ⟨k + 1, by omega, by go_num, .inr ⟨b, cap, rfl, hb1, hb2, by rw [HM.out]; exact hrow⟩, hsz, hb⟩
          case measure => simp [intOf]; omega
      · have hne : (((plnB l[k]).toNat : Int) != (l[k].toNat : Int)) = true := by
          rw [bne_iff_ne]
          intro e
          exact hc (UInt8.toNat.inj (by omega))
        clear hc
        have HS := Lib.hid (mixL_set l k hlt)
        rcases hB with ⟨rfl, hm⟩ | ⟨b, cap, rfl, hb1, hb2, hrow⟩
        · obtain ⟨cap, wB, hrun, hcap, hrow, hext, hszB⟩ := row_of_string (P := Try.prog) wr 9 33 5 l Try.underlying9 Try.underlying33 Try.underlying5
          have hcellB := ((hT.ext hg hb).ext (Nat.lt_of_lt_of_le hg hsz) hext).at l[k]
          have hk1 := hrow.cell k hlt
          have hk2 := hrow.free k hlt
          have hrow2 : ByteRow wr.heap.size (mixL l (k + 1)) (wB.setCell ⟨wr.heap.size, k, none⟩ (.int .u8 ((plnB l[k]).toNat : Nat))) := by
            have := hrow.set k (plnB l[k])
            rw [← HS.out, hm]
            exact this
          clear hm
          go_wp2
          go_roundw
          case rel => exact ⟨k + 1, by omega, by go_num, .inr ⟨_, cap, rfl, hsz, by simp; omega, hrow2⟩, by simp; omega, (hb.trans (hext.mono hsz)).setCell hsz _⟩
          case measure => simp [intOf]; omega
        · have hkm : k < (mixL l k).length := by rw [mixL_len]; exact hlt
          have hk1 := hrow.cell k hkm
          have hk2 := hrow.free k hkm
          have hrow2 : ByteRow b (mixL l (k + 1)) (wr.setCell ⟨b, k, none⟩ (.int .u8 ((plnB l[k]).toNat : Nat))) := by
            rw [← HS.out]
            exact hrow.set k (plnB l[k])
          go_wp2
          go_roundw
          case rel => exact ⟨k + 1, by omega, by go_num, .inr ⟨b, cap, rfl, hb1, by simpa using hb2, hrow2⟩, by simpa using hsz, hb.setCell hb1 _⟩
          case measure => simp [intOf]; omega
    · obtain rfl : k = l.length := by omega
      have HA := Lib.hid (mixL_all l)
      rcases hB with ⟨rfl, hm⟩ | ⟨b, cap, rfl, hb1, hb2, hrow⟩
      · have HM := Lib.hid hm
        clear hm
        go_wp2
        go_ret
        exact ⟨ret_inj (str_eq (by rw [← HA.out, HM.out])), hb⟩
      · have hcv := hrow.back (P := Try.prog) 33 9 5 cap Try.underlying33 Try.underlying5 Try.underlying9
        rw [mixL_len] at hcv
        go_wp2
        go_ret
        exact ⟨ret_inj (str_eq HA.out), hb⟩
end Go.Proofs.Ytkgieaokckidmaa
