/-
  What is proved: texts without spaces around them, texts cut at commas: the program's: contracts. Condition: texts of at most 100000 bytes.
-/
import Derived.Test.YtghafpkkmeibgaaDoorAscP
import Derived.Test.YtghafpkkmeibgaaDoorSpl
import Derived.Test.YtghafpkkmeibgaaDoorGen2
import Derived.Shelf.Strings.SlTrimAscii
namespace Go.Proofs
open Go.Shelf
def Tryd.lays160_ren : Go.Shelf.Ren := ⟨fun | 119 => 100 | 120 => 96 | 137 => 64 | 151 => 86 | 152 => 95 | 160 => 62 | 197 => 85 | 217 => 78 | 224 => 98 | 225 => 97 | 227 => 73 | 228 => 84 | 231 => 71 | 232 => 72 | 233 => 74 | 234 => 75 | 235 => 76 | 236 => 77 | 260 => 94 | 266 => 88 | 271 => 87 | n => n, fun | 0 => 0 | 3 => 3 | 4 => 4 | 5 => 5 | 9 => 9 | 21 => 21 | 46 => 105 | 105 => 96 | 116 => 88 | 117 => 89 | 119 => 106 | 124 => 92 | 138 => 108 | 139 => 109 | n => n, fun | 3 => 1 | 4 => 2 | n => n⟩
theorem Tryd.lays160 : Go.Proofs.Lays.n160 Tryd.prog Tryd.lays160_ren := {
  mixed := by kernel_rfl
  f119 := Tryd.func100.trans (congrArg some (by kernel_rfl))
  f120 := Tryd.func96.trans (congrArg some (by kernel_rfl))
  f137 := Tryd.func64.trans (congrArg some (by kernel_rfl))
  f151 := Tryd.func86.trans (congrArg some (by kernel_rfl))
  f152 := Tryd.func95.trans (congrArg some (by kernel_rfl))
  f160 := Tryd.func62.trans (congrArg some (by kernel_rfl))
  f197 := Tryd.func85.trans (congrArg some (by kernel_rfl))
  f217 := Tryd.func78.trans (congrArg some (by kernel_rfl))
  f224 := Tryd.func98.trans (congrArg some (by kernel_rfl))
  f225 := Tryd.func97.trans (congrArg some (by kernel_rfl))
  f227 := Tryd.func73.trans (congrArg some (by kernel_rfl))
  f228 := Tryd.func84.trans (congrArg some (by kernel_rfl))
  f231 := Tryd.func71.trans (congrArg some (by kernel_rfl))
  f232 := Tryd.func72.trans (congrArg some (by kernel_rfl))
  f233 := Tryd.func74.trans (congrArg some (by kernel_rfl))
  f234 := Tryd.func75.trans (congrArg some (by kernel_rfl))
  f235 := Tryd.func76.trans (congrArg some (by kernel_rfl))
  f236 := Tryd.func77.trans (congrArg some (by kernel_rfl))
  f260 := Tryd.func94.trans (congrArg some (by kernel_rfl))
  f266 := Tryd.func88.trans (congrArg some (by kernel_rfl))
  f271 := Tryd.func87.trans (congrArg some (by kernel_rfl))
  t0 := Tryd.underlying0
  a0 := Tryd.isAgg0
  z0 := Tryd.sizeOf0
  v0 := Tryd.zeroValue0
  t3 := Tryd.underlying3
  a3 := Tryd.isAgg3
  z3 := Tryd.sizeOf3
  v3 := Tryd.zeroValue3
  t4 := Tryd.underlying4
  a4 := Tryd.isAgg4
  z4 := Tryd.sizeOf4
  v4 := Tryd.zeroValue4
  t5 := Tryd.underlying5
  a5 := Tryd.isAgg5
  z5 := Tryd.sizeOf5
  v5 := Tryd.zeroValue5
  t9 := Tryd.underlying9
  a9 := Tryd.isAgg9
  z9 := Tryd.sizeOf9
  v9 := Tryd.zeroValue9
  t21 := Tryd.underlying21
  a21 := Tryd.isAgg21
  z21 := Tryd.sizeOf21
  v21 := Tryd.zeroValue21
  t46 := Tryd.underlying105
  a46 := Tryd.isAgg105
  z46 := Tryd.sizeOf105
  v46 := Tryd.zeroValue105
  t105 := Tryd.underlying96
  a105 := Tryd.isAgg96
  z105 := Tryd.sizeOf96
  v105 := Tryd.zeroValue96
  t116 := Tryd.underlying88
  a116 := Tryd.isAgg88
  z116 := Tryd.sizeOf88
  t117 := Tryd.underlying89
  a117 := Tryd.isAgg89
  z117 := Tryd.sizeOf89
  v117 := Tryd.zeroValue89
  t119 := Tryd.underlying106
  a119 := Tryd.isAgg106
  z119 := Tryd.sizeOf106
  t124 := Tryd.underlying92
  a124 := Tryd.isAgg92
  z124 := Tryd.sizeOf92
  v124 := Tryd.zeroValue92
  t138 := Tryd.underlying108
  a138 := Tryd.isAgg108
  z138 := Tryd.sizeOf108
  v138 := Tryd.zeroValue108
  t139 := Tryd.underlying109
  a139 := Tryd.isAgg109
  z139 := Tryd.sizeOf109
  v139 := Tryd.zeroValue109
  g3 := by kernel_rfl
  g4 := by kernel_rfl }
end Go.Proofs
namespace Go.Proofs.YtghafpkkmeibgaaDoor
open Go.RowKit

theorem StrsB.cells2 {w : World} {v : Value} {l : List (List UInt8)} (h : StrsB w v l) : ∃ a cap, v = .slice a l.length cap ∧ ∀ k (hk : k < l.length), ∃ b off, a = some ⟨b, off, none⟩ ∧ b < w.heap.size ∧ w.cell? ⟨b, off + k, none⟩ = some (.string ⟨⟨l[k]⟩⟩) := h.strs.cells
theorem OwnS.mono2 {B B' : Nat} {v : Value} {l : List (List UInt8)} {w : World} (h : OwnS B' v l w) (hB : B ≤ B') : OwnS B v l w := by
  obtain ⟨h2, h3⟩ := h
  refine ⟨h2, ?_⟩
  rcases h3 with h3 | ⟨g, cap, cur, e, hg, r⟩
  · exact .inl h3
  · exact .inr ⟨g, cap, cur, e, by omega, r⟩
theorem strip_any (l : List UInt8) (w : World) (hl : l.length < 100000) :
    Calls Tryd.prog 35 #[.string ⟨⟨l⟩⟩] w fun e w' => e = .returned (.string ⟨⟨stripL l⟩⟩) ∧ Ext w w' := by
  have ct : ∀ W, Calls Tryd.prog 62 #[.string ⟨⟨l⟩⟩, .string ⟨⟨[9, 10, 12, 13, 32]⟩⟩] W fun e w' => e = .returned (.string ⟨⟨stripL l⟩⟩) ∧ Ext W w' := by
    intro W
    refine (Go.Proofs.Any.strings_Trim_laid Tryd.lays160 (by kernel_rfl) ⟨⟨l⟩⟩ ⟨⟨[9, 10, 12, 13, 32]⟩⟩ W (by show l.length ≤ _; omega) (by decide) (Go.Proofs.ascii_of_all (by decide))).mono ?_
    rintro e w' ⟨rfl, hb⟩
    refine ⟨ret_inj (str_eq ?_), hb⟩
    exact strip_lib l
  go_enter Tryd.func35, Tryd.ntmps35
  go_wp2_with (go_at_call 62; refine (ct _).mono ?_; rintro e w1 ⟨rfl, x1⟩)
  go_ret
  exact ⟨rfl, x1⟩
set_option maxHeartbeats 4000000 in
theorem commas_any (l : List UInt8) (w : World) (hm : MaxIs w) (hl : l.length < 100000) :
    Calls Tryd.prog 40 #[.string ⟨⟨l⟩⟩] w fun e w' => ∃ v, e = .returned v ∧ OwnS w.heap.size v (commasL l) w' ∧ Ext w w' := by
  have hcount := split_count 44 l
  have heach := split_each 44 l
  obtain ⟨P, hP⟩ : ∃ P, splitL 44 l = P := ⟨_, rfl⟩
  have HP := Lib.hid hP
  have csplit := split_any l 44 w hm hl
  rw [hP] at hcount heach csplit
  clear hP
  have HE := Lib.hid heach
  clear heach
  go_enter Tryd.func40, Tryd.ntmps40
  go_wp2_with (go_at_call 54; refine csplit.mono ?_; rintro e w1 ⟨v, rfl, hsb, hx1⟩; obtain ⟨a, cap, rfl, hcells⟩ := hsb.cells2; have HC := Lib.hid hcells; clear hcells)
  clear hm csplit hsb
  go_loopw [3, 9] (fun vs i wr => ∃ (k : Nat) (out : List (List UInt8)), i = .int .i64 k ∧ k ≤ P.length ∧ out.length ≤ k ∧ OwnS w1.heap.size vs out wr ∧ Hid (out = (P.take k).foldl commaStep []) ∧ Ext w1 wr) (fun _ i _ => P.length - (intOf i).toNat)
  case atStart => exact ⟨0, [], rfl, by omega, by simp, OwnS.nil _ _, Lib.hid rfl, Ext.refl _⟩
  case round =>
    obtain ⟨k, out, rfl, hk, ho, hown, HD, hx⟩ := hrel
    have hws : w1.heap.size ≤ wr.heap.size := hx.size
    by_cases hlt : k < P.length
    · obtain ⟨b, off, rfl, hb, hcell⟩ := HC.out k hlt
      have hcell := (hx.cell (p := ⟨b, off + k, none⟩) hb).trans hcell
      have hpl : P[k].length < 100000 := by have := HE.out _ (List.getElem_mem hlt); omega
      have HS : Hid ((P.take (k + 1)).foldl commaStep [] = commaStep out P[k]) := Lib.hid (by rw [List.take_succ_eq_append_getElem hlt, List.foldl_append, HD.out]; rfl)
      obtain ⟨p, hp⟩ : ∃ p, P[k] = p := ⟨_, rfl⟩
      rw [hp] at hcell hpl HS
      have cp := fun W => strip_any p W hpl
      obtain ⟨q, hq⟩ : ∃ q, stripL p = q := ⟨_, rfl⟩
      rw [hq] at cp
      have HQ := Lib.hid hq
      have k0 : (0 : Int) ≤ (k : Int) := by omega
      have k1 : (k : Int) < (P.length : Int) := by omega
      clear hp hq
      by_cases hq0 : q = []
      · subst hq0
        have HA : Hid (commaStep out p = out) := Lib.hid (by unfold commaStep; rw [if_pos HQ.out])
        go_wp2_with (go_at_call 35; refine (cp _).mono ?_; rintro e w2 ⟨rfl, x2⟩)
        go_roundw
        case rel => exact ⟨k + 1, out, by go_num, by omega, by omega, hown.below x2, Lib.hid (by rw [HS.out, HA.out]), Ext.trans hx x2⟩
        case measure => simp [intOf]; omega
      · have HA : Hid (commaStep out p = out ++ [q]) := Lib.hid (by unfold commaStep; rw [HQ.out, if_neg hq0])
        have e3 : (q == []) = false := beq_eq_false_iff_ne.2 hq0
        have e4 : (q != []) = true := by unfold bne; rw [e3]; rfl
        clear hq0
        go_wp2_with (first
          | (go_at_call 35; refine (cp _).mono ?_; rintro e w2 ⟨rfl, x2⟩; have hown2 := hown.below x2)
          | (at_builtin; refine app_str rfl _ _ rfl q _ w2 rfl rfl rfl hown2 rfl (by omega) (Nat.le_trans hws x2.size) ?_; intro v4 w4 hown4 y4))
        go_roundw
        case rel => exact ⟨k + 1, out ++ [q], by go_num, by omega, by simp; omega, hown4, Lib.hid (by rw [HS.out, HA.out]), Below.trans (Ext.trans hx x2) y4⟩
        case measure => simp [intOf]; omega
    · obtain rfl : k = P.length := by omega
      go_wp2_with fail
      go_ret
      refine ⟨_, rfl, ?_, Ext.trans hx1 hx⟩
      have : out = commasL l := by
        rw [HD.out, List.take_length]
        unfold commasL
        rw [HP.out]
      rw [← this]
      exact hown.mono2 hx1.size
end Go.Proofs.YtghafpkkmeibgaaDoor
