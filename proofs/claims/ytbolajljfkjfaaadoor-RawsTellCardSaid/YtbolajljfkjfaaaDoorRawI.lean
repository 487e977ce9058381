/-
  What is proved: the first blank of any text: strings.IndexAny, and strings.IndexRune at a character from 128 on, among the blanks: contracts. Condition: texts of less than 100000 bytes.
-/
import Derived.Test.YtbolajljfkjfaaaDoorRawH
import Derived.Test.YtbolajljfkjfaaaDoorSam
import Derived.Shelf.Strings.IndexAnyAll
import Derived.Shelf.Strings.SlTrimAscii
import Derived.Deep.QuietTactic
import Derived.BigQuiet
import Derived.Shelf.Small.Utf8
namespace Go.Proofs
open Go.Shelf
def Tryd.lays153_ren : Go.Shelf.Ren := ⟨fun | 119 => 81 | 137 => 80 | 152 => 58 | 153 => 36 | 217 => 93 | 224 => 82 | 225 => 83 | 226 => 59 | 227 => 55 | 228 => 60 | 266 => 104 | n => n, fun | 0 => 0 | 3 => 3 | 4 => 4 | 5 => 5 | 9 => 9 | 21 => 21 | 46 => 103 | 116 => 78 | 117 => 79 | 124 => 82 | n => n, fun | n => n⟩
theorem Tryd.lays153 : Go.Proofs.Lays.n153 Tryd.prog Tryd.lays153_ren := {
  mixed := by kernel_rfl
  f119 := Tryd.func81.trans (congrArg some (by kernel_rfl))
  f137 := Tryd.func80.trans (congrArg some (by kernel_rfl))
  f152 := Tryd.func58.trans (congrArg some (by kernel_rfl))
  f153 := Tryd.func36.trans (congrArg some (by kernel_rfl))
  f217 := Tryd.func93.trans (congrArg some (by kernel_rfl))
  f224 := Tryd.func82.trans (congrArg some (by kernel_rfl))
  f225 := Tryd.func83.trans (congrArg some (by kernel_rfl))
  f226 := Tryd.func59.trans (congrArg some (by kernel_rfl))
  f227 := Tryd.func55.trans (congrArg some (by kernel_rfl))
  f228 := Tryd.func60.trans (congrArg some (by kernel_rfl))
  f266 := Tryd.func104.trans (congrArg some (by kernel_rfl))
  t0 := Tryd.underlying0
  a0 := Tryd.isAgg0
  z0 := Tryd.sizeOf0
  v0 := Tryd.zeroValue0
  t3 := Tryd.underlying3
  a3 := Tryd.isAgg3
  z3 := Tryd.sizeOf3
  v3 := Tryd.zeroValue3
  t4 := Tryd.underlying4
  a4 := Tryd.isAgg4
  z4 := Tryd.sizeOf4
  v4 := Tryd.zeroValue4
  t5 := Tryd.underlying5
  a5 := Tryd.isAgg5
  z5 := Tryd.sizeOf5
  v5 := Tryd.zeroValue5
  t9 := Tryd.underlying9
  a9 := Tryd.isAgg9
  z9 := Tryd.sizeOf9
  v9 := Tryd.zeroValue9
  t21 := Tryd.underlying21
  a21 := Tryd.isAgg21
  z21 := Tryd.sizeOf21
  v21 := Tryd.zeroValue21
  t46 := Tryd.underlying103
  a46 := Tryd.isAgg103
  z46 := Tryd.sizeOf103
  v46 := Tryd.zeroValue103
  t116 := Tryd.underlying78
  a116 := Tryd.isAgg78
  z116 := Tryd.sizeOf78
  t117 := Tryd.underlying79
  a117 := Tryd.isAgg79
  z117 := Tryd.sizeOf79
  v117 := Tryd.zeroValue79
  t124 := Tryd.underlying82
  a124 := Tryd.isAgg82
  z124 := Tryd.sizeOf82
  v124 := Tryd.zeroValue82 }
def Tryd.lays161_ren : Go.Shelf.Ren := ⟨fun | 119 => 81 | 137 => 80 | 151 => 79 | 152 => 58 | 161 => 35 | 197 => 78 | 217 => 93 | 224 => 82 | 225 => 83 | 227 => 55 | 228 => 60 | 231 => 54 | 233 => 56 | 235 => 57 | 260 => 95 | 266 => 104 | n => n, fun | 0 => 0 | 3 => 3 | 4 => 4 | 5 => 5 | 9 => 9 | 21 => 21 | 46 => 103 | 105 => 97 | 116 => 78 | 117 => 79 | 119 => 114 | 124 => 82 | 138 => 116 | 139 => 117 | n => n, fun | 3 => 1 | 4 => 2 | n => n⟩
theorem Tryd.lays161 : Go.Proofs.Lays.n161 Tryd.prog Tryd.lays161_ren := {
  mixed := by kernel_rfl
  f119 := Tryd.func81.trans (congrArg some (by kernel_rfl))
  f137 := Tryd.func80.trans (congrArg some (by kernel_rfl))
  f151 := Tryd.func79.trans (congrArg some (by kernel_rfl))
  f152 := Tryd.func58.trans (congrArg some (by kernel_rfl))
  f161 := Tryd.func35.trans (congrArg some (by kernel_rfl))
  f197 := Tryd.func78.trans (congrArg some (by kernel_rfl))
  f217 := Tryd.func93.trans (congrArg some (by kernel_rfl))
  f224 := Tryd.func82.trans (congrArg some (by kernel_rfl))
  f225 := Tryd.func83.trans (congrArg some (by kernel_rfl))
  f227 := Tryd.func55.trans (congrArg some (by kernel_rfl))
  f228 := Tryd.func60.trans (congrArg some (by kernel_rfl))
  f231 := Tryd.func54.trans (congrArg some (by kernel_rfl))
  f233 := Tryd.func56.trans (congrArg some (by kernel_rfl))
  f235 := Tryd.func57.trans (congrArg some (by kernel_rfl))
  f260 := Tryd.func95.trans (congrArg some (by kernel_rfl))
  f266 := Tryd.func104.trans (congrArg some (by kernel_rfl))
  t0 := Tryd.underlying0
  a0 := Tryd.isAgg0
  z0 := Tryd.sizeOf0
  v0 := Tryd.zeroValue0
  t3 := Tryd.underlying3
  a3 := Tryd.isAgg3
  z3 := Tryd.sizeOf3
  v3 := Tryd.zeroValue3
  t4 := Tryd.underlying4
  a4 := Tryd.isAgg4
  z4 := Tryd.sizeOf4
  v4 := Tryd.zeroValue4
  t5 := Tryd.underlying5
  a5 := Tryd.isAgg5
  z5 := Tryd.sizeOf5
  v5 := Tryd.zeroValue5
  t9 := Tryd.underlying9
  a9 := Tryd.isAgg9
  z9 := Tryd.sizeOf9
  v9 := Tryd.zeroValue9
  t21 := Tryd.underlying21
  a21 := Tryd.isAgg21
  z21 := Tryd.sizeOf21
  v21 := Tryd.zeroValue21
  t46 := Tryd.underlying103
  a46 := Tryd.isAgg103
  z46 := Tryd.sizeOf103
  v46 := Tryd.zeroValue103
  t105 := Tryd.underlying97
  a105 := Tryd.isAgg97
  z105 := Tryd.sizeOf97
  v105 := Tryd.zeroValue97
  t116 := Tryd.underlying78
  a116 := Tryd.isAgg78
  z116 := Tryd.sizeOf78
  t117 := Tryd.underlying79
  a117 := Tryd.isAgg79
  z117 := Tryd.sizeOf79
  v117 := Tryd.zeroValue79
  t119 := Tryd.underlying114
  a119 := Tryd.isAgg114
  z119 := Tryd.sizeOf114
  t124 := Tryd.underlying82
  a124 := Tryd.isAgg82
  z124 := Tryd.sizeOf82
  v124 := Tryd.zeroValue82
  t138 := Tryd.underlying116
  a138 := Tryd.isAgg116
  z138 := Tryd.sizeOf116
  v138 := Tryd.zeroValue116
  t139 := Tryd.underlying117
  a139 := Tryd.isAgg117
  z139 := Tryd.sizeOf117
  v139 := Tryd.zeroValue117
  g3 := by kernel_rfl
  g4 := by kernel_rfl }
def Tryd.lays160_ren : Go.Shelf.Ren := ⟨fun | 119 => 81 | 120 => 96 | 137 => 80 | 151 => 79 | 152 => 58 | 160 => 37 | 197 => 78 | 217 => 93 | 224 => 82 | 225 => 83 | 227 => 55 | 228 => 60 | 231 => 54 | 232 => 61 | 233 => 56 | 234 => 62 | 235 => 57 | 236 => 63 | 260 => 95 | 266 => 104 | 271 => 84 | n => n, fun | 0 => 0 | 3 => 3 | 4 => 4 | 5 => 5 | 9 => 9 | 21 => 21 | 46 => 103 | 105 => 97 | 116 => 78 | 117 => 79 | 119 => 114 | 124 => 82 | 138 => 116 | 139 => 117 | n => n, fun | 3 => 1 | 4 => 2 | n => n⟩
theorem Tryd.lays160 : Go.Proofs.Lays.n160 Tryd.prog Tryd.lays160_ren := {
  mixed := by kernel_rfl
  f119 := Tryd.func81.trans (congrArg some (by kernel_rfl))
  f120 := Tryd.func96.trans (congrArg some (by kernel_rfl))
  f137 := Tryd.func80.trans (congrArg some (by kernel_rfl))
  f151 := Tryd.func79.trans (congrArg some (by kernel_rfl))
  f152 := Tryd.func58.trans (congrArg some (by kernel_rfl))
  f160 := Tryd.func37.trans (congrArg some (by kernel_rfl))
  f197 := Tryd.func78.trans (congrArg some (by kernel_rfl))
  f217 := Tryd.func93.trans (congrArg some (by kernel_rfl))
  f224 := Tryd.func82.trans (congrArg some (by kernel_rfl))
  f225 := Tryd.func83.trans (congrArg some (by kernel_rfl))
  f227 := Tryd.func55.trans (congrArg some (by kernel_rfl))
  f228 := Tryd.func60.trans (congrArg some (by kernel_rfl))
  f231 := Tryd.func54.trans (congrArg some (by kernel_rfl))
  f232 := Tryd.func61.trans (congrArg some (by kernel_rfl))
  f233 := Tryd.func56.trans (congrArg some (by kernel_rfl))
  f234 := Tryd.func62.trans (congrArg some (by kernel_rfl))
  f235 := Tryd.func57.trans (congrArg some (by kernel_rfl))
  f236 := Tryd.func63.trans (congrArg some (by kernel_rfl))
  f260 := Tryd.func95.trans (congrArg some (by kernel_rfl))
  f266 := Tryd.func104.trans (congrArg some (by kernel_rfl))
  f271 := Tryd.func84.trans (congrArg some (by kernel_rfl))
  t0 := Tryd.underlying0
  a0 := Tryd.isAgg0
  z0 := Tryd.sizeOf0
  v0 := Tryd.zeroValue0
  t3 := Tryd.underlying3
  a3 := Tryd.isAgg3
  z3 := Tryd.sizeOf3
  v3 := Tryd.zeroValue3
  t4 := Tryd.underlying4
  a4 := Tryd.isAgg4
  z4 := Tryd.sizeOf4
  v4 := Tryd.zeroValue4
  t5 := Tryd.underlying5
  a5 := Tryd.isAgg5
  z5 := Tryd.sizeOf5
  v5 := Tryd.zeroValue5
  t9 := Tryd.underlying9
  a9 := Tryd.isAgg9
  z9 := Tryd.sizeOf9
  v9 := Tryd.zeroValue9
  t21 := Tryd.underlying21
  a21 := Tryd.isAgg21
  z21 := Tryd.sizeOf21
  v21 := Tryd.zeroValue21
  t46 := Tryd.underlying103
  a46 := Tryd.isAgg103
  z46 := Tryd.sizeOf103
  v46 := Tryd.zeroValue103
  t105 := Tryd.underlying97
  a105 := Tryd.isAgg97
  z105 := Tryd.sizeOf97
  v105 := Tryd.zeroValue97
  t116 := Tryd.underlying78
  a116 := Tryd.isAgg78
  z116 := Tryd.sizeOf78
  t117 := Tryd.underlying79
  a117 := Tryd.isAgg79
  z117 := Tryd.sizeOf79
  v117 := Tryd.zeroValue79
  t119 := Tryd.underlying114
  a119 := Tryd.isAgg114
  z119 := Tryd.sizeOf114
  t124 := Tryd.underlying82
  a124 := Tryd.isAgg82
  z124 := Tryd.sizeOf82
  v124 := Tryd.zeroValue82
  t138 := Tryd.underlying116
  a138 := Tryd.isAgg116
  z138 := Tryd.sizeOf116
  v138 := Tryd.zeroValue116
  t139 := Tryd.underlying117
  a139 := Tryd.isAgg117
  z139 := Tryd.sizeOf117
  v139 := Tryd.zeroValue117
  g3 := by kernel_rfl
  g4 := by kernel_rfl }
def Tryd.lays119_ren : Go.Shelf.Ren := ⟨fun | 119 => 81 | n => n, fun | 4 => 4 | 21 => 21 | n => n, fun | n => n⟩
theorem Tryd.lays119 : Go.Proofs.Lays.n119 Tryd.prog Tryd.lays119_ren := {
  mixed := by kernel_rfl
  f119 := Tryd.func81.trans (congrArg some (by kernel_rfl))
  t4 := Tryd.underlying4
  a4 := Tryd.isAgg4
  z4 := Tryd.sizeOf4
  v4 := Tryd.zeroValue4
  t21 := Tryd.underlying21
  a21 := Tryd.isAgg21
  z21 := Tryd.sizeOf21
  v21 := Tryd.zeroValue21 }
end Go.Proofs
namespace Go.Proofs.YtbolajljfkjfaaaDoor
open Go.RowKit

theorem validRune_any (r : Nat) (hv : Utf8.valid (r : Int) = true) (w : World) : Calls Tryd.prog 81 #[.int .i32 r] w fun e w' => e = .returned (.bool true) ∧ w = w' := by
  refine (Any.utf8_ValidRune Tryd.lays119 (r : Int) w).mono ?_
  rintro e w' ⟨rfl, rfl⟩
  refine ⟨ret_inj (bool_eq ?_), rfl⟩
  unfold Utf8.valid at hv
  unfold Lib.validRune
  rw [Bool.eq_iff_iff] at hv ⊢
  simp at hv ⊢
  omega
set_option maxRecDepth 10000000 in
set_option maxHeartbeats 4000000 in
theorem indexRune_bad (K0 : Int) (hK0 : 65533 = K0) (w : World) :
    Calls Tryd.prog 58 #[.string ⟨⟨[9, 10, 12, 32]⟩⟩, .int .i32 K0] w fun e w' => e = .returned (.int .i64 (-1)) ∧ Ext w w' := by
  have HK := Lib.hid hK0
  have b1 : ¬ K0 < 128 := by omega
  have e1 : ((9 : Int) == K0) = false := by rw [beq_eq_false_iff_ne]; omega
  have e2 : ((10 : Int) == K0) = false := by rw [beq_eq_false_iff_ne]; omega
  have e3 : ((12 : Int) == K0) = false := by rw [beq_eq_false_iff_ne]; omega
  have e4 : ((32 : Int) == K0) = false := by rw [beq_eq_false_iff_ne]; omega
  have n0 := fun ty => run_next_ascii (P := Tryd.prog) w ⟨⟨[9, 10, 12, 32]⟩⟩ 0 ty (by decide) (by decide)
  have n1 := fun ty => run_next_ascii (P := Tryd.prog) w ⟨⟨[9, 10, 12, 32]⟩⟩ 1 ty (by decide) (by decide)
  have n2 := fun ty => run_next_ascii (P := Tryd.prog) w ⟨⟨[9, 10, 12, 32]⟩⟩ 2 ty (by decide) (by decide)
  have n3 := fun ty => run_next_ascii (P := Tryd.prog) w ⟨⟨[9, 10, 12, 32]⟩⟩ 3 ty (by decide) (by decide)
  have n4 := fun ty => run_next_end (P := Tryd.prog) w ⟨⟨[9, 10, 12, 32]⟩⟩ 4 ty (by decide)
  go_enter Tryd.func58, Tryd.ntmps58
  rw [hK0]
  clear hK0
  go_wp2_with fail
  refine wp_loop_rounds 5 ?_
  rw [rounds_succ]
  go_wp2_with fail
  rw [rounds_succ]
  go_wp2_with fail
  rw [rounds_succ]
  go_wp2_with fail
  rw [rounds_succ]
  go_wp2_with fail
  rw [rounds_succ]
  go_wp2_with fail
  go_ret
  exact ⟨rfl, (Below.refl _ _).alloc (Nat.le_refl _) _⟩
theorem iBlank_none (l : List UInt8) (c : UInt8) (hl : l.all (fun x => decide (x.toNat < 128)) = true) (hc : 128 ≤ c.toNat) (w : World) :
    Calls Tryd.prog 80 #[.string ⟨⟨l⟩⟩, .int .u8 c.toNat] w fun e w' => e = .returned (.int .i64 (-1)) ∧ w = w' := by
  have h : Lib.indexByte l c = -1 := by
    have h1 := indexByte_nonneg l c
    have h2 : l.contains c = false := by
      rw [Bool.eq_false_iff]
      intro h3
      rw [List.contains_iff_mem] at h3
      have := of_decide_eq_true (List.all_eq_true.1 hl c h3)
      omega
    rw [h2] at h1
    have := of_decide_eq_false h1
    have := Lib.indexByte_ge l c
    omega
  rw [← h]
  exact indexByte_any l c w
theorem ne_low (x : Nat) (c : UInt8) (hx : x < 128) (hc : 128 ≤ c.toNat) : (((x : Nat) : Int) != (c.toNat : Int)) = true ∧ (((x : Nat) : Int) == (c.toNat : Int)) = false := by
  have : (((x : Nat) : Int) == (c.toNat : Int)) = false := by rw [beq_eq_false_iff_ne]; omega
  exact ⟨by unfold bne; rw [this]; rfl, this⟩
set_option maxRecDepth 10000000 in
set_option maxHeartbeats 4000000 in
theorem indexRune_high (r : Nat) (hv : Utf8.valid (r : Int) = true) (h : 128 ≤ r) (hne : r ≠ 65533) (w : World) :
    Calls Tryd.prog 58 #[.string ⟨⟨[9, 10, 12, 32]⟩⟩, .int .i32 (r : Int)] w fun e w' => e = .returned (.int .i64 (-1)) ∧ Ext w w' := by
  have b0 : (0 : Int) ≤ (r : Int) := by omega
  have b1 : ¬ (r : Int) < 128 := by omega
  have b2 : ((r : Int) == 65533) = false := by rw [beq_eq_false_iff_ne]; omega
  have cv := fun W => validRune_any r hv W
  rcases enc_high r hv h with ⟨a, b, ha, hb, he⟩ | ⟨a, b, c, ha, hb, hc, he⟩ | ⟨a, b, c, d, ha, hb, hc, hd, he⟩
  · have f := ne_low 10 b (by omega) hb
    have f1 := f.1
    have f2 := f.2
    have ci := fun W => iBlank_none [12, 32] b (by decide) hb W
    clear f hv h hne ha hb
    go_enter Tryd.func58, Tryd.ntmps58
    go_wp2_with (go_at_call 81; refine (cv _).mono ?_; rintro e w1 ⟨rfl, rfl⟩)
    go_step3
    go_wp2_with fail
    refine wp_loop_rounds 1 ?_
    rw [rounds_succ]
    go_wp2_with fail
    go_step3
    go_wp2_with fail
    go_quiet (fail)
    go_wp2_with fail
    go_quiet ((go_at_call 80; first | exact still2 ci | exact still1 ci))
    go_wp2_with fail
    (repeat (first | (rw [Exit.noGoto_ret]) | (simp only [Exit.inBlock, Exit.then])))
    go_ret
    exact ⟨rfl, Ext.drewN _ _⟩
  · have f := ne_low 12 c (by omega) hc
    have f1 := f.1
    have f2 := f.2
    have ci := fun W => iBlank_none [32] c (by decide) hc W
    clear f hv h hne ha hb hc
    go_enter Tryd.func58, Tryd.ntmps58
    go_wp2_with (go_at_call 81; refine (cv _).mono ?_; rintro e w1 ⟨rfl, rfl⟩)
    go_step3
    go_wp2_with fail
    refine wp_loop_rounds 1 ?_
    rw [rounds_succ]
    go_wp2_with fail
    go_step3
    go_wp2_with fail
    go_quiet (fail)
    go_wp2_with fail
    go_quiet ((go_at_call 80; first | exact still2 ci | exact still1 ci))
    go_wp2_with fail
    (repeat (first | (rw [Exit.noGoto_ret]) | (simp only [Exit.inBlock, Exit.then])))
    go_ret
    exact ⟨rfl, Ext.drewN _ _⟩
  · have f := ne_low 32 d (by omega) hd
    have f1 := f.1
    have f2 := f.2
    have ci := fun W => iBlank_none [] d (by decide) hd W
    clear f hv h hne ha hb hc hd
    go_enter Tryd.func58, Tryd.ntmps58
    go_wp2_with (go_at_call 81; refine (cv _).mono ?_; rintro e w1 ⟨rfl, rfl⟩)
    go_step3
    go_wp2_with fail
    refine wp_loop_rounds 1 ?_
    rw [rounds_succ]
    go_wp2_with fail
    go_step3
    go_wp2_with fail
    go_quiet (fail)
    go_wp2_with fail
    go_quiet ((go_at_call 80; first | exact still2 ci | exact still1 ci))
    go_wp2_with fail
    (repeat (first | (rw [Exit.noGoto_ret]) | (simp only [Exit.inBlock, Exit.then])))
    go_ret
    exact ⟨rfl, Ext.drewN _ _⟩
end Go.Proofs.YtbolajljfkjfaaaDoor
