/-
  What is proved: the walk of the statement AsciiCase: it answers true. Conditions: a text and a list that fit, what the package's variable holds.
-/
import Derived.Test.YtghafpkkmeibgaaDoorAscT
import Derived.Test.YtghafpkkmeibgaaDoorAscQ
import Derived.Test.YtghafpkkmeibgaaDoorBls
import Derived.Laws.BitsAllLaws
import Derived.Deep.DeepCutAuto
namespace Go.Proofs.YtghafpkkmeibgaaDoor
open Go.RowKit

theorem xor32 (c : UInt8) : bits .xor .u8 (c.toNat : Int) 32 = ((c ^^^ 32).toNat : Int) := u8_xor_nat c.toNat 32 c.toNat_lt (by decide)
theorem xor8 (c b : UInt8) : bits .xor .u8 (c.toNat : Int) (b.toNat : Int) = ((c ^^^ b).toNat : Int) := u8_xor_nat c.toNat b.toNat c.toNat_lt b.toNat_lt
theorem turned_low {t : List UInt8} {k : Nat} (hk : k < t.length) (hl : letterB t[k] = true) : lowL (t.set k (t[k] ^^^ 32)) = lowL t := by
  have h := same_by hk 32
  rw [hl] at h
  have h2 : (lowL t == lowL (t.set k (t[k] ^^^ 32))) = true := by rw [h]; rfl
  exact (beq_iff_eq.1 h2).symm
theorem alpha_letter (c : UInt8) : alphaB c = letterB c := rfl
set_option maxHeartbeats 8000000 in
set_option maxRecDepth 100000 in
theorem asciiCase_walk (s : List UInt8) (tv : Value) (ts : List Bool) (o0 o1 : Int) (w : World) (hm : MaxIs w) (hs : s.length ≤ maxLen) (K : BoolsAt w tv ts) (h00 : 0 ≤ o0) (h01 : o0 ≤ 65535) (h10 : 0 ≤ o1) (h11 : o1 ≤ 65535) :
    Calls Tryd.prog 14 #[.string ⟨⟨s⟩⟩, tv, .agg #[.int .u16 o0, .int .u16 o1]] w fun e w' => e = .returned (.bool true) ∧ Ext w w' := by
  unfold maxLen at hs
  obtain ⟨ga, gc, rfl, hgl, hgc⟩ := K.cells
  unfold maxLen at hgl
  have HGC := Lib.hid hgc
  clear hgc K
  have xb : Ext w (w.alloc (.cells #[.int .u16 o0, .int .u16 o1] 63)) := (Below.refl _ _).alloc (Nat.le_refl _) _
  by_cases g1 : 2000 < s.length
  · go_enter Tryd.func14, Tryd.ntmps14
    go_wp2_with (go_at_call 32; refine (spelt_any _ (hm.ext xb)).mono ?_; rintro e w1 ⟨rfl, x1⟩)
    go_ret
    exact ⟨rfl, Ext.trans xb x1⟩
  · have hsl : s.length < 100000 := by omega
    obtain ⟨cap, w1, hconv, hcap, hrow, hext, hsz⟩ := row_of_string (P := Tryd.prog) (w.alloc (.cells #[.int .u16 o0, .int .u16 o1] 63)) 9 56 5 s Tryd.underlying9 Tryd.underlying56 Tryd.underlying5
    have HR := Lib.hid hrow
    have HE := Lib.hid (Ext.trans xb hext)
    have z0 : (w.alloc (.cells #[.int .u16 o0, .int .u16 o1] 63)).cell? ⟨w.heap.size, 0, none⟩ = some (.int .u16 o0) := by simp
    have z1 : (w.alloc (.cells #[.int .u16 o0, .int .u16 o1] 63)).cell? ⟨w.heap.size, 1, none⟩ = some (.int .u16 o1) := by simp
    have q0 := (hext.cell (p := ⟨w.heap.size, 0, none⟩) (by simp)).trans z0
    have q1 := (hext.cell (p := ⟨w.heap.size, 1, none⟩) (by simp)).trans z1
    have HQ := Lib.hid (And.intro q0 q1)
    have hzz : w1.heap.size = w.heap.size + 1 + 1 := by rw [hsz, World.size_alloc]
    have HZZ := Lib.hid hzz
    have hb : w.heap.size + 1 < w1.heap.size := by omega
    clear hrow hext hsz z0 z1 q0 q1 xb hzz
    go_enter Tryd.func14, Tryd.ntmps14
    simp only [World.size_alloc] at hconv
    go_wp2_with fail
    clear hconv
    go_loopw [8] (fun i wr => ∃ (k : Nat) (t : List UInt8), i = .int .i64 k ∧ k ≤ s.length ∧ s.length ≤ t.length ∧ t.length ≤ s.length ∧ ByteRow (w.heap.size + 1) t wr ∧ Hid (lowL t = lowL s) ∧ Ext w wr ∧ w.heap.size + 1 < wr.heap.size ∧ wr.cell? ⟨w.heap.size, 0, none⟩ = some (.int .u16 o0) ∧ wr.cell? ⟨w.heap.size, 1, none⟩ = some (.int .u16 o1)) (fun i _ => s.length - (intOf i).toNat)
    case atStart => exact ⟨0, s, rfl, by omega, by omega, by omega, by have := HR.out; rwa [World.size_alloc] at this, Lib.hid rfl, HE.out, hb, HQ.out.1, HQ.out.2⟩
    case round =>
      obtain ⟨k, t, rfl, hk, ht1, ht2, hR, HL, hx, hbr, p0, p1⟩ := hrel
      by_cases hin : k < s.length ∧ k < ts.length
      · obtain ⟨hlt, hlt2⟩ := hin
        obtain ⟨b2, o2, rfl, hb2, d2⟩ := HGC.out k hlt2
        have d2 := (hx.cell (p := ⟨b2, o2 + k, none⟩) hb2).trans d2
        have hkt : k < t.length := by omega
        have hcell := hR.cell k hkt
        have hfree := hR.free k hkt
        obtain ⟨tb, htb⟩ : ∃ tb, ts[k] = tb := ⟨_, rfl⟩
        rw [htb] at d2
        obtain ⟨c, hc⟩ : ∃ c, t[k] = c := ⟨_, rfl⟩
        have hturn : letterB c = true → lowL (t.set k (c ^^^ 32)) = lowL s := fun h => by
          rw [← hc] at h ⊢
          rw [turned_low hkt h]
          exact HL.out
        have HTN := Lib.hid hturn
        rw [hc] at hcell
        have hcl := c.toNat_lt
        have hx32 := xor32 c
        have ca := fun W => alpha_any c W
        rw [alpha_letter] at ca
        have k0 : (0 : Int) ≤ (k : Int) := by omega
        have k1 : (k : Int) < (s.length : Int) := by omega
        have k2 : (k : Int) < (ts.length : Int) := by omega
        clear htb hc hturn
        cases tb
        · go_wp2_with fail
          go_roundw
          case rel => exact ⟨k + 1, t, by go_num, by omega, ht1, ht2, hR, HL, hx, hbr, p0, p1⟩
          case measure => simp [intOf]; omega
        · cases hlb : letterB c
          · rw [hlb] at ca
            clear hlb
            go_wp2_with (go_at_call 48; refine (ca _).mono ?_; rintro e w2 ⟨rfl, rfl⟩)
            go_roundw
            case rel => exact ⟨k + 1, t, by go_num, by omega, ht1, ht2, hR, HL, hx, hbr, p0, p1⟩
            case measure => simp [intOf]; omega
          · have HT2 := Lib.hid (HTN.out hlb)
            rw [hlb] at ca
            clear hlb
            go_wp2_with (go_at_call 48; refine (ca _).mono ?_; rintro e w2 ⟨rfl, rfl⟩)
            go_roundw
            case rel => exact ⟨k + 1, t.set k (c ^^^ 32), by go_num, by omega, by simpa using ht1, by simpa using ht2, hR.set k _, HT2, hx.setCell (show w.heap.size ≤ w.heap.size + 1 by omega) _, by rw [World.size_setCell]; exact hbr, by rw [World.cell?_setCell_other _ _ _ _ (by simp)]; exact p0, by rw [World.cell?_setCell_other _ _ _ _ (by simp)]; exact p1⟩
            case measure => simp [intOf]; omega
      · have hend : (k < s.length ∧ ¬ k < ts.length) ∨ ¬ k < s.length := by omega
        clear hin
        rcases hend with ⟨_, _⟩ | _
        all_goals
          have HLL : Hid (lowL s = lowL t) := Lib.hid HL.out.symm
          have cl := fun W => Lower_any s W hsl
          have htl : t.length < 100000 := by omega
          have cl2 := fun W => Lower_any t W htl
          have csm := fun W => same_any s t W (by unfold maxLen; omega) (by unfold maxLen; omega)
          rw [HL.out, show (lowL s == lowL s) = true from by simp] at csm
          rw [HL.out] at cl2
          have hLen : (lowL s).length = s.length := lowL_len s
          have cl3 := fun W => Lower_any (lowL s) W (by omega)
          rw [lowL_two] at cl3
          obtain ⟨L, hL⟩ : ∃ L, lowL s = L := ⟨_, rfl⟩
          rw [hL] at cl cl2 cl3 hLen
          have HLs := Lib.hid hL
          have e1 : (L != L) = false := by simp
          have e2 : ((L.length : Int) != (s.length : Int)) = false := by rw [hLen]; simp
          have e3 : ((L.length : Int) == (s.length : Int)) = true := by rw [hLen]; simp
          have HLen := Lib.hid hLen
          have hteq : t.length = s.length := by omega
          have HTE := Lib.hid hteq
          clear hL hLen hteq
          go_wp2_with fail
          refine (cl _).mono ?_
          rintro e w2 ⟨rfl, x2⟩
          have hR2 := hR.ext hbr x2
          have hb2 : w.heap.size + 1 < w2.heap.size := Nat.lt_of_lt_of_le hbr x2.size
          have p02 := (x2.cell (p := ⟨w.heap.size, 0, none⟩) (show w.heap.size < _ by omega)).trans p0
          have p12 := (x2.cell (p := ⟨w.heap.size, 1, none⟩) (show w.heap.size < _ by omega)).trans p1
          have hback2 := hR2.back (P := Tryd.prog) 56 9 5 cap Tryd.underlying56 Tryd.underlying5 Tryd.underlying9
          rw [HTE.out] at hback2
          go_wp2_with fail
          refine (csm _).mono ?_
          rintro e w3 ⟨rfl, x3⟩
          have hR3 := hR2.ext hb2 x3
          have hb3 : w.heap.size + 1 < w3.heap.size := Nat.lt_of_lt_of_le hb2 x3.size
          have p03 := (x3.cell (p := ⟨w.heap.size, 0, none⟩) (show w.heap.size < _ by omega)).trans p02
          have p13 := (x3.cell (p := ⟨w.heap.size, 1, none⟩) (show w.heap.size < _ by omega)).trans p12
          have hback3 := hR3.back (P := Tryd.prog) 56 9 5 cap Tryd.underlying56 Tryd.underlying5 Tryd.underlying9
          rw [HTE.out] at hback3
          clear hback2
          go_wp2_with fail
          refine (cl2 _).mono ?_
          rintro e w4 ⟨rfl, x4⟩
          have hR4 := hR3.ext hb3 x4
          have hb4 : w.heap.size + 1 < w4.heap.size := Nat.lt_of_lt_of_le hb3 x4.size
          have p04 := (x4.cell (p := ⟨w.heap.size, 0, none⟩) (show w.heap.size < _ by omega)).trans p03
          have p14 := (x4.cell (p := ⟨w.heap.size, 1, none⟩) (show w.heap.size < _ by omega)).trans p13
          clear hback3
          go_wp2_with fail
          refine (cl3 _).mono ?_
          rintro e w5 ⟨rfl, x5⟩
          have hR5 := hR4.ext hb4 x5
          have hb5 : w.heap.size + 1 < w5.heap.size := Nat.lt_of_lt_of_le hb4 x5.size
          have p05 := (x5.cell (p := ⟨w.heap.size, 0, none⟩) (show w.heap.size < _ by omega)).trans p04
          have p15 := (x5.cell (p := ⟨w.heap.size, 1, none⟩) (show w.heap.size < _ by omega)).trans p14
          have y5 : Ext w w5 := Ext.trans hx (Ext.trans x2 (Ext.trans x3 (Ext.trans x4 x5)))
          clear p0 p1 p02 p12 p03 p13 p04 p14 x2 x3 x4 x5
          by_cases hz : s.length = 0
          · have e4 : ((s.length : Int) == 0) = true := by rw [hz]; rfl
            have HZ := Lib.hid hz
            clear hz
            go_wp2_with (go_at_call 32; refine (spelt_any _ (hm.ext y5)).mono ?_; rintro e w6 ⟨rfl, x6⟩)
            go_ret
            exact ⟨rfl, Ext.trans y5 x6⟩
          · have e4 : ((s.length : Int) == 0) = false := beq_eq_false_iff_ne.2 (by omega)
            have hpos : (0 : Int) < (s.length : Int) := by omega
            obtain ⟨p, hpe, hps⟩ : ∃ p : Nat, o0 % (s.length : Int) = (p : Int) ∧ p < s.length := ⟨(o0 % (s.length : Int)).toNat, by rw [Int.toNat_of_nonneg (Int.emod_nonneg _ (by omega))], by have := Int.emod_lt_of_pos o0 hpos; have := Int.emod_nonneg o0 (show (s.length : Int) ≠ 0 by omega); omega⟩
            have hpt : p < t.length := by omega
            have hcell := hR5.cell p hpt
            have hfree := hR5.free p hpt
            obtain ⟨c, hc⟩ : ∃ c, t[p] = c := ⟨_, rfl⟩
            have hcl := c.toNat_lt
            have ca := fun W => alpha_any c W
            rw [alpha_letter] at ca
            have p0' : (0 : Int) ≤ (p : Int) := by omega
            have p1' : (p : Int) < (s.length : Int) := by omega
            have hby : ∀ y : UInt8, (lowL s == lowL (t.set p (c ^^^ y))) = (y == 0 || (y == 32 && letterB c)) := fun y => by
              have h := same_by hpt y
              rw [hc, HL.out] at h
              exact h
            have HBY := Lib.hid hby
            rw [hc] at hcell
            clear hc hby
            have hset : ∀ y : UInt8, (t.set p (c ^^^ y)).length = s.length := fun y => by rw [List.length_set, HTE.out]
            have HSET := Lib.hid hset
            clear hset
            by_cases h32 : o1 % 256 = 32
            · have hxo := xor32 c
              have hR6 := hR5.set p (c ^^^ 32)
              have cs6 := fun W => same_any s (t.set p (c ^^^ 32)) W (by unfold maxLen; omega) (by rw [HSET.out]; unfold maxLen; omega)
              rw [HBY.out, show ((32 : UInt8) == 0 || ((32 : UInt8) == 32 && letterB c)) = letterB c from rfl] at cs6
              have hback6 := hR6.back (P := Tryd.prog) 56 9 5 cap Tryd.underlying56 Tryd.underlying5 Tryd.underlying9
              rw [HSET.out] at hback6
              obtain ⟨x, hx0⟩ : ∃ x, c ^^^ 32 = x := ⟨_, rfl⟩
              rw [hx0] at hxo hR6 cs6 hback6
              clear hx0
              obtain ⟨lb, hlb⟩ : ∃ lb, letterB c = lb := ⟨_, rfl⟩
              rw [hlb] at ca cs6
              have e5 : (lb == lb) = true := by simp
              clear hlb
              go_wp2_with fail
              refine (ca _).mono ?_
              rintro e w6 ⟨rfl, rfl⟩
              go_wp2_with fail
              refine (cs6 _).mono ?_
              rintro e w7 ⟨rfl, x7⟩
              have y7 := Ext.trans (y5.setCell (p := ⟨w.heap.size + 1, p, none⟩) (show w.heap.size ≤ w.heap.size + 1 by omega) _) x7
              cases lb
              all_goals
                go_wp2_with fail
                refine (spelt_any _ (hm.ext y7)).mono ?_
                rintro e w8 ⟨rfl, x8⟩
                go_wp2_with fail
                go_ret
                exact ⟨rfl, Ext.trans y7 x8⟩
            · by_cases h0 : o1 % 256 = 0
              · have hxo : bits .xor .u8 (c.toNat : Int) 0 = ((c ^^^ 0).toNat : Int) := xor8 c 0
                have hR6 := hR5.set p (c ^^^ 0)
                have cs6 := fun W => same_any s (t.set p (c ^^^ 0)) W (by unfold maxLen; omega) (by rw [HSET.out]; unfold maxLen; omega)
                rw [HBY.out, show ((0 : UInt8) == 0 || ((0 : UInt8) == 32 && letterB c)) = true from rfl] at cs6
                have hback6 := hR6.back (P := Tryd.prog) 56 9 5 cap Tryd.underlying56 Tryd.underlying5 Tryd.underlying9
                rw [HSET.out] at hback6
                obtain ⟨x, hx0⟩ : ∃ x, c ^^^ 0 = x := ⟨_, rfl⟩
                rw [hx0] at hxo hR6 cs6 hback6
                clear h32 hx0
                go_wp2_with fail
                refine (cs6 _).mono ?_
                rintro e w7 ⟨rfl, x7⟩
                have y7 := Ext.trans (y5.setCell (p := ⟨w.heap.size + 1, p, none⟩) (show w.heap.size ≤ w.heap.size + 1 by omega) _) x7
                go_wp2_with fail
                refine (spelt_any _ (hm.ext y7)).mono ?_
                rintro e w8 ⟨rfl, x8⟩
                go_wp2_with fail
                go_ret
                exact ⟨rfl, Ext.trans y7 x8⟩
              · obtain ⟨y, hy⟩ : ∃ y : UInt8, o1 % 256 = (y.toNat : Int) := ⟨UInt8.ofNat (o1 % 256).toNat, by rw [UInt8.toNat_ofNat', Nat.mod_eq_of_lt (by omega)]; omega⟩
                have hyl := y.toNat_lt
                have n0 : (y == 0) = false := beq_eq_false_iff_ne.2 fun e => h0 (by rw [hy, e]; rfl)
                have n32 : (y == 32) = false := beq_eq_false_iff_ne.2 fun e => h32 (by rw [hy, e]; rfl)
                have i0 : ((y.toNat : Int) == 0) = false := beq_eq_false_iff_ne.2 fun e => h0 (hy.trans e)
                have i32 : ((y.toNat : Int) == 32) = false := beq_eq_false_iff_ne.2 fun e => h32 (hy.trans e)
                have hxo := xor8 c y
                have hR6 := hR5.set p (c ^^^ y)
                have cs6 := fun W => same_any s (t.set p (c ^^^ y)) W (by unfold maxLen; omega) (by rw [HSET.out]; unfold maxLen; omega)
                rw [HBY.out, n0, n32, show (false || (false && letterB c)) = false from rfl] at cs6
                have hback6 := hR6.back (P := Tryd.prog) 56 9 5 cap Tryd.underlying56 Tryd.underlying5 Tryd.underlying9
                rw [HSET.out] at hback6
                obtain ⟨x, hx0⟩ : ∃ x, c ^^^ y = x := ⟨_, rfl⟩
                rw [hx0] at hxo hR6 cs6 hback6
                clear h32 h0 n0 n32 hx0
                go_wp2_with fail
                refine (cs6 _).mono ?_
                rintro e w7 ⟨rfl, x7⟩
                have y7 := Ext.trans (y5.setCell (p := ⟨w.heap.size + 1, p, none⟩) (show w.heap.size ≤ w.heap.size + 1 by omega) _) x7
                go_wp2_with fail
                refine (spelt_any _ (hm.ext y7)).mono ?_
                rintro e w8 ⟨rfl, x8⟩
                go_wp2_with fail
                go_ret
                exact ⟨rfl, Ext.trans y7 x8⟩
end Go.Proofs.YtghafpkkmeibgaaDoor
