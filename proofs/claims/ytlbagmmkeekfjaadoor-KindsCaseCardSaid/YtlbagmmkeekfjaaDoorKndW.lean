/-
  What is proved: what the functions of package kinds compute: contracts. Conditions: names of at most 300 bytes; the package's table holds what its text lays.
-/
import Derived.Test.YtlbagmmkeekfjaaDoorKndP
import Derived.Test.YtlbagmmkeekfjaaDoorRows
import Derived.Shelf.Strings.Search3
namespace Go.Proofs
open Go.Shelf
def Tryd.lays144_ren : Go.Shelf.Ren := ⟨fun | 143 => 26 | 144 => 25 | 217 => 28 | 219 => 27 | 224 => 30 | 225 => 29 | 266 => 32 | 267 => 31 | 314 => 33 | n => n, fun | 3 => 3 | 4 => 4 | 5 => 5 | 9 => 9 | 46 => 39 | 51 => 40 | 146 => 41 | n => n, fun | 1 => 1 | n => n⟩
theorem Tryd.lays144 : Go.Proofs.Lays.n144 Tryd.prog Tryd.lays144_ren := {
  mixed := by kernel_rfl
  f143 := Tryd.func26.trans (congrArg some (by kernel_rfl))
  f144 := Tryd.func25.trans (congrArg some (by kernel_rfl))
  f217 := Tryd.func28.trans (congrArg some (by kernel_rfl))
  f219 := Tryd.func27.trans (congrArg some (by kernel_rfl))
  f224 := Tryd.func30.trans (congrArg some (by kernel_rfl))
  f225 := Tryd.func29.trans (congrArg some (by kernel_rfl))
  f266 := Tryd.func32.trans (congrArg some (by kernel_rfl))
  f267 := Tryd.func31.trans (congrArg some (by kernel_rfl))
  f314 := Tryd.func33.trans (congrArg some (by kernel_rfl))
  t3 := Tryd.underlying3
  a3 := Tryd.isAgg3
  z3 := Tryd.sizeOf3
  v3 := Tryd.zeroValue3
  t4 := Tryd.underlying4
  a4 := Tryd.isAgg4
  z4 := Tryd.sizeOf4
  v4 := Tryd.zeroValue4
  t5 := Tryd.underlying5
  a5 := Tryd.isAgg5
  z5 := Tryd.sizeOf5
  v5 := Tryd.zeroValue5
  t9 := Tryd.underlying9
  a9 := Tryd.isAgg9
  z9 := Tryd.sizeOf9
  v9 := Tryd.zeroValue9
  t46 := Tryd.underlying39
  a46 := Tryd.isAgg39
  z46 := Tryd.sizeOf39
  v46 := Tryd.zeroValue39
  t51 := Tryd.underlying40
  a51 := Tryd.isAgg40
  z51 := Tryd.sizeOf40
  v51 := Tryd.zeroValue40
  t146 := Tryd.underlying41
  a146 := Tryd.isAgg41
  z146 := Tryd.sizeOf41
  v146 := Tryd.zeroValue41
  g1 := by kernel_rfl }

end Go.Proofs
namespace Go.Proofs.YtlbagmmkeekfjaaDoor
open Go.RowKit

/-- What the package-level variables hold. -/
structure Glob (w : World) : Prop where
  max : ∃ m, w.cell? ⟨1, 0, none⟩ = some (.int .i64 m)
  s0 : w.cell? ⟨0, 0, none⟩ = some (.string ⟨⟨joined (scopeW 0)⟩⟩)
  s1 : w.cell? ⟨0, 1, none⟩ = some (.string ⟨⟨joined (scopeW 1)⟩⟩)
  s2 : w.cell? ⟨0, 2, none⟩ = some (.string ⟨⟨joined (scopeW 2)⟩⟩)
  s3 : w.cell? ⟨0, 3, none⟩ = some (.string ⟨⟨joined (scopeW 3)⟩⟩)
theorem cell_ext {w w' : World} {a : Addr} {v : Value} (h : w.cell? a = some v) (k : Ext w w') : w'.cell? a = some v := by
  rw [k.cell (World.block_lt_of_cell? w a h)]; exact h
theorem Glob.ext {w w' : World} (h : Glob w) (k : Ext w w') : Glob w' :=
  ⟨let ⟨m, hm⟩ := h.max; ⟨m, cell_ext hm k⟩, cell_ext h.s0 k, cell_ext h.s1 k, cell_ext h.s2 k, cell_ext h.s3 k⟩

theorem contains_any (s sub : List UInt8) (w : World) (hg : Glob w) (hs : s.length < 4294967281) :
    Calls Tryd.prog 25 #[.string ⟨⟨s⟩⟩, .string ⟨⟨sub⟩⟩] w fun e w' => e = .returned (.bool (Lib.contains s sub)) ∧ w = w' := by
  obtain ⟨m, hm⟩ := hg.max
  refine (Any.strings_Contains Tryd.lays144 ⟨⟨s⟩⟩ ⟨⟨sub⟩⟩ m w hs hm).mono ?_
  rintro e w' ⟨rfl, rfl⟩
  exact ⟨rfl, rfl⟩
set_option maxHeartbeats 400000 in
theorem in_any (list n : List UInt8) (w : World) (hg : Glob w) (hs : list.length ≤ 10000) (hn : n.length ≤ 300) :
    Calls Tryd.prog 23 #[.string ⟨⟨list⟩⟩, .string ⟨⟨n⟩⟩] w fun e w' => e = .returned (.bool (inB list n)) ∧ w = w' := by
  match n, hn with
  | [], hn =>
    go_enter Tryd.func23, Tryd.ntmps23
    go_wp2_with fail
    go_ret
    exact ⟨rfl, rfl⟩
  | c :: r, hn =>
    simp only [List.length_cons] at hn
    have hb : inB list (c :: r) = (!Lib.contains (c :: r) [32] && Lib.contains list (32 :: (c :: r ++ [32]))) := by
      rw [contains_blank]
      rfl
    rw [hb]
    clear hb
    have hG := Lib.hid hg
    clear hg
    cases h1 : Lib.contains (c :: r) [32]
    · go_enter Tryd.func23, Tryd.ntmps23
      go_wp2_with fail
      refine (contains_any _ _ _ hG.out (by simp; omega)).mono ?_
      rintro e w' ⟨rfl, rfl⟩
      go_wp2_with fail
      refine (contains_any _ _ _ hG.out (by omega)).mono ?_
      rintro e w' ⟨rfl, rfl⟩
      go_wp2_with fail
      go_ret
      exact ⟨rfl, rfl⟩
    · go_enter Tryd.func23, Tryd.ntmps23
      go_wp2_with fail
      refine (contains_any _ _ _ hG.out (by simp; omega)).mono ?_
      rintro e w' ⟨rfl, rfl⟩
      go_wp2_with fail
      go_ret
      exact ⟨rfl, rfl⟩

/-- Is a name in a list? -/
def memB (ws : List (List UInt8)) (n : List UInt8) : Bool := decide (n ∈ ws)
theorem inB_mem {ch : List UInt8} (ws : List (List UInt8)) (hw : ws.all (fun w => solid w && !w.isEmpty) = true) (h : ch = joined ws) (n : List UInt8) : inB ch n = memB ws n := by
  rw [h]; exact inB_joined ws hw n
set_option maxHeartbeats 400000 in
theorem formatting_any (n : List UInt8) (w : World) (hg : Glob w) (hn : n.length ≤ 300) :
    Calls Tryd.prog 11 #[.string ⟨⟨n⟩⟩] w fun e w' => e = .returned (.bool (memB formattingW n)) ∧ w = w' := by
  have hG := Lib.hid hg
  clear hg
  go_enter Tryd.func11, Tryd.ntmps11
  go_wp2_with fail
  refine (in_any _ _ _ hG.out (by decide +kernel) hn).mono ?_
  rintro e w' ⟨rfl, rfl⟩
  go_wp2_with fail
  go_ret
  exact ⟨ret_inj (bool_eq (inB_mem formattingW (by decide +kernel) (by kernel_rfl) n)), rfl⟩
set_option maxHeartbeats 400000 in
theorem void_any (n : List UInt8) (w : World) (hg : Glob w) (hn : n.length ≤ 300) :
    Calls Tryd.prog 13 #[.string ⟨⟨n⟩⟩] w fun e w' => e = .returned (.bool (memB voidW n)) ∧ w = w' := by
  have hG := Lib.hid hg
  clear hg
  go_enter Tryd.func13, Tryd.ntmps13
  go_wp2_with fail
  refine (in_any _ _ _ hG.out (by decide +kernel) hn).mono ?_
  rintro e w' ⟨rfl, rfl⟩
  go_wp2_with fail
  go_ret
  exact ⟨ret_inj (bool_eq (inB_mem voidW (by decide +kernel) (by kernel_rfl) n)), rfl⟩
set_option maxHeartbeats 400000 in
theorem implied_any (n : List UInt8) (w : World) (hg : Glob w) (hn : n.length ≤ 300) :
    Calls Tryd.prog 15 #[.string ⟨⟨n⟩⟩] w fun e w' => e = .returned (.bool (memB impliedW n)) ∧ w = w' := by
  have hG := Lib.hid hg
  clear hg
  go_enter Tryd.func15, Tryd.ntmps15
  go_wp2_with fail
  refine (in_any _ _ _ hG.out (by decide +kernel) hn).mono ?_
  rintro e w' ⟨rfl, rfl⟩
  go_wp2_with fail
  go_ret
  exact ⟨ret_inj (bool_eq (inB_mem impliedW (by decide +kernel) (by kernel_rfl) n)), rfl⟩
set_option maxHeartbeats 400000 in
theorem heading_any (n : List UInt8) (w : World) (hg : Glob w) (hn : n.length ≤ 300) :
    Calls Tryd.prog 19 #[.string ⟨⟨n⟩⟩] w fun e w' => e = .returned (.bool (memB headingsW n)) ∧ w = w' := by
  have hG := Lib.hid hg
  clear hg
  go_enter Tryd.func19, Tryd.ntmps19
  go_wp2_with fail
  refine (in_any _ _ _ hG.out (by decide +kernel) hn).mono ?_
  rintro e w' ⟨rfl, rfl⟩
  go_wp2_with fail
  go_ret
  exact ⟨ret_inj (bool_eq (inB_mem headingsW (by decide +kernel) (by kernel_rfl) n)), rfl⟩
def thoB (n : List UInt8) : Bool := memB impliedW n || memB thoroughW n
set_option maxHeartbeats 400000 in
theorem thorough_any (n : List UInt8) (w : World) (hg : Glob w) (hn : n.length ≤ 300) :
    Calls Tryd.prog 17 #[.string ⟨⟨n⟩⟩] w fun e w' => e = .returned (.bool (thoB n)) ∧ w = w' := by
  have hG := Lib.hid hg
  clear hg
  unfold thoB
  cases hi : memB impliedW n
  · go_enter Tryd.func17, Tryd.ntmps17
    go_wp2_with fail
    refine (implied_any _ _ hG.out hn).mono ?_
    rintro e w' ⟨rfl, rfl⟩
    go_wp2_with fail
    refine (in_any _ _ _ hG.out (by decide +kernel) hn).mono ?_
    rintro e w' ⟨rfl, rfl⟩
    go_wp2_with fail
    go_ret
    exact ⟨ret_inj (bool_eq (inB_mem thoroughW (by decide +kernel) (by kernel_rfl) n)), rfl⟩
  · go_enter Tryd.func17, Tryd.ntmps17
    go_wp2_with fail
    refine (implied_any _ _ hG.out hn).mono ?_
    rintro e w' ⟨rfl, rfl⟩
    go_wp2_with fail
    go_ret
    exact ⟨rfl, rfl⟩
def spB (space : Int) (n : List UInt8) : Bool := if space = 0 then memB specialW n else if space = 2 then memB mathW n else if space = 1 then memB svgW n else false
set_option maxRecDepth 100000 in
set_option maxHeartbeats 400000 in
theorem special_any (space : Int) (n : List UInt8) (w : World) (hg : Glob w) (hn : n.length ≤ 300) :
    Calls Tryd.prog 9 #[.int .i64 space, .string ⟨⟨n⟩⟩] w fun e w' => e = .returned (.bool (spB space n)) ∧ w = w' := by
  have hG := Lib.hid hg
  clear hg
  by_cases h0 : space = 0
  · subst h0
    go_enter Tryd.func9, Tryd.ntmps9
    go_wp2_with fail
    refine (in_any _ _ _ hG.out (by decide +kernel) hn).mono ?_
    rintro e w' ⟨rfl, rfl⟩
    go_wp2_with fail
    go_ret
    exact ⟨ret_inj (bool_eq (inB_mem specialW (by decide +kernel) (by kernel_rfl) n)), rfl⟩
  by_cases h2 : space = 2
  · subst h2
    go_enter Tryd.func9, Tryd.ntmps9
    go_wp2_with fail
    refine (in_any _ _ _ hG.out (by decide +kernel) hn).mono ?_
    rintro e w' ⟨rfl, rfl⟩
    go_wp2_with fail
    go_ret
    exact ⟨ret_inj (bool_eq (inB_mem mathW (by decide +kernel) (by kernel_rfl) n)), rfl⟩
  by_cases h1 : space = 1
  · subst h1
    go_enter Tryd.func9, Tryd.ntmps9
    go_wp2_with fail
    refine (in_any _ _ _ hG.out (by decide +kernel) hn).mono ?_
    rintro e w' ⟨rfl, rfl⟩
    go_wp2_with fail
    go_ret
    exact ⟨ret_inj (bool_eq (inB_mem svgW (by decide +kernel) (by kernel_rfl) n)), rfl⟩
  have e : spB space n = false := by simp [spB, h0, h1, h2]
  rw [e]
  have k0 : (space == 0) = false := by simpa using h0
  have k1 : (space == 1) = false := by simpa using h1
  have k2 : (space == 2) = false := by simpa using h2
  clear e h0 h1 h2
  go_enter Tryd.func9, Tryd.ntmps9
  go_wp2_with fail
  go_ret
  exact ⟨rfl, rfl⟩
def scB (which space : Int) (n : List UInt8) : Bool := if which < 0 ∨ 4 ≤ which then false else if space = 0 then memB (scopeW which) n else which != 3 && spB space n
set_option maxHeartbeats 400000 in
theorem scope_any (which space : Int) (n : List UInt8) (w : World) (hg : Glob w) (hn : n.length ≤ 300) :
    Calls Tryd.prog 7 #[.int .i64 which, .int .i64 space, .string ⟨⟨n⟩⟩] w fun e w' => e = .returned (.bool (scB which space n)) ∧ w = w' := by
  have hG := Lib.hid hg
  obtain ⟨_, s0, s1, s2, s3⟩ := hg
  by_cases hw : which < 0 ∨ 4 ≤ which
  · have e : scB which space n = false := by simp [scB, hw]
    rw [e]
    clear e s0 s1 s2 s3
    rcases hw with hw | hw
    all_goals
      go_enter Tryd.func7, Tryd.ntmps7
      go_wp2_with fail
      go_ret
      exact ⟨rfl, rfl⟩
  have hw4 : which = 0 ∨ which = 1 ∨ which = 2 ∨ which = 3 := by omega
  by_cases h0 : space = 0
  · subst h0
    clear hw
    rcases hw4 with rfl | rfl | rfl | rfl
    all_goals
      go_enter Tryd.func7, Tryd.ntmps7
      go_wp2_with fail
      refine (in_any _ _ _ hG.out (by decide +kernel) hn).mono ?_
      rintro e w' ⟨rfl, rfl⟩
      go_wp2_with fail
      go_ret
      exact ⟨ret_inj (bool_eq (inB_mem (scopeW _) (by decide +kernel) rfl n)), rfl⟩
  · have e : scB which space n = (which != 3 && spB space n) := by unfold scB; rw [if_neg hw, if_neg h0]
    rw [e]
    have k0 : (space == 0) = false := by simpa using h0
    clear e h0 hw s0 s1 s2 s3
    rcases hw4 with rfl | rfl | rfl | rfl
    · go_enter Tryd.func7, Tryd.ntmps7
      go_wp2_with (go_at_call 9; refine (special_any _ _ _ hG.out hn).mono ?_; rintro e w' ⟨rfl, rfl⟩)
      go_ret
      exact ⟨rfl, rfl⟩
    · go_enter Tryd.func7, Tryd.ntmps7
      go_wp2_with (go_at_call 9; refine (special_any _ _ _ hG.out hn).mono ?_; rintro e w' ⟨rfl, rfl⟩)
      go_ret
      exact ⟨rfl, rfl⟩
    · go_enter Tryd.func7, Tryd.ntmps7
      go_wp2_with (go_at_call 9; refine (special_any _ _ _ hG.out hn).mono ?_; rintro e w' ⟨rfl, rfl⟩)
      go_ret
      exact ⟨rfl, rfl⟩
    · go_enter Tryd.func7, Tryd.ntmps7
      go_wp2_with (go_at_call 9; refine (special_any _ _ _ hG.out hn).mono ?_; rintro e w' ⟨rfl, rfl⟩)
      go_ret
      exact ⟨rfl, rfl⟩
/-- What the tokenizer goes on with. -/
def stN (n : List UInt8) : Int :=
  if n = [116, 101, 120, 116, 97, 114, 101, 97] ∨ n = [116, 105, 116, 108, 101] then 1
  else if n = [105, 102, 114, 97, 109, 101] ∨ n = [110, 111, 101, 109, 98, 101, 100] ∨ n = [110, 111, 102, 114, 97, 109, 101, 115] ∨ n = [115, 116, 121, 108, 101] ∨ n = [120, 109, 112] then 2
  else if n = [115, 99, 114, 105, 112, 116] then 3 else if n = [112, 108, 97, 105, 110, 116, 101, 120, 116] then 4 else 0
set_option maxHeartbeats 400000 in
theorem state_any (n : List UInt8) (w : World) :
    Calls Tryd.prog 21 #[.string ⟨⟨n⟩⟩] w fun e w' => e = .returned (.int .i64 (stN n)) ∧ w = w' := by
  by_cases h0 : n = [116, 101, 120, 116, 97, 114, 101, 97]
  · subst h0
    go_enter Tryd.func21, Tryd.ntmps21
    go_wp2_with fail
    go_ret
    exact ⟨rfl, rfl⟩
  by_cases h1 : n = [116, 105, 116, 108, 101]
  · subst h1
    go_enter Tryd.func21, Tryd.ntmps21
    go_wp2_with fail
    go_ret
    exact ⟨rfl, rfl⟩
  by_cases h2 : n = [105, 102, 114, 97, 109, 101]
  · subst h2
    go_enter Tryd.func21, Tryd.ntmps21
    go_wp2_with fail
    go_ret
    exact ⟨rfl, rfl⟩
  by_cases h3 : n = [110, 111, 101, 109, 98, 101, 100]
  · subst h3
    go_enter Tryd.func21, Tryd.ntmps21
    go_wp2_with fail
    go_ret
    exact ⟨rfl, rfl⟩
  by_cases h4 : n = [110, 111, 102, 114, 97, 109, 101, 115]
  · subst h4
    go_enter Tryd.func21, Tryd.ntmps21
    go_wp2_with fail
    go_ret
    exact ⟨rfl, rfl⟩
  by_cases h5 : n = [115, 116, 121, 108, 101]
  · subst h5
    go_enter Tryd.func21, Tryd.ntmps21
    go_wp2_with fail
    go_ret
    exact ⟨rfl, rfl⟩
  by_cases h6 : n = [120, 109, 112]
  · subst h6
    go_enter Tryd.func21, Tryd.ntmps21
    go_wp2_with fail
    go_ret
    exact ⟨rfl, rfl⟩
  by_cases h7 : n = [115, 99, 114, 105, 112, 116]
  · subst h7
    go_enter Tryd.func21, Tryd.ntmps21
    go_wp2_with fail
    go_ret
    exact ⟨rfl, rfl⟩
  by_cases h8 : n = [112, 108, 97, 105, 110, 116, 101, 120, 116]
  · subst h8
    go_enter Tryd.func21, Tryd.ntmps21
    go_wp2_with fail
    go_ret
    exact ⟨rfl, rfl⟩
  have e : stN n = 0 := by simp [stN, h0, h1, h2, h3, h4, h5, h6, h7, h8]
  rw [e]
  have k0 : (n == [116, 101, 120, 116, 97, 114, 101, 97]) = false := by simpa using h0
  have k1 : (n == [116, 105, 116, 108, 101]) = false := by simpa using h1
  have k2 : (n == [105, 102, 114, 97, 109, 101]) = false := by simpa using h2
  have k3 : (n == [110, 111, 101, 109, 98, 101, 100]) = false := by simpa using h3
  have k4 : (n == [110, 111, 102, 114, 97, 109, 101, 115]) = false := by simpa using h4
  have k5 : (n == [115, 116, 121, 108, 101]) = false := by simpa using h5
  have k6 : (n == [120, 109, 112]) = false := by simpa using h6
  have k7 : (n == [115, 99, 114, 105, 112, 116]) = false := by simpa using h7
  have k8 : (n == [112, 108, 97, 105, 110, 116, 101, 120, 116]) = false := by simpa using h8
  clear e h0 h1 h2 h3 h4 h5 h6 h7 h8
  go_enter Tryd.func21, Tryd.ntmps21
  go_wp2_with fail
  go_ret
  exact ⟨rfl, rfl⟩
end Go.Proofs.YtlbagmmkeekfjaaDoor
