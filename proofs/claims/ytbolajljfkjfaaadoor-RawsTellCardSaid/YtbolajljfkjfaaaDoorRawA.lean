/-
  What is proved: the program's small functions of raw texts: clean, behind, upto, token: contracts. Conditions: texts of less than 100000 bytes; the library's variable holds an integer.
-/
import Derived.Test.YtbolajljfkjfaaaDoorRawP
import Derived.Test.YtbolajljfkjfaaaDoorRpA
import Derived.Test.YtbolajljfkjfaaaDoorSam
import Derived.Shelf.Strings.Search3
import Derived.Handy
namespace Go.Proofs
open Go.Shelf
def Tryd.lays143_ren : Go.Shelf.Ren := ⟨fun | 143 => 53 | 217 => 93 | 219 => 77 | 224 => 82 | 225 => 83 | 266 => 104 | 267 => 94 | 314 => 105 | n => n, fun | 3 => 3 | 4 => 4 | 5 => 5 | 9 => 9 | 46 => 103 | 51 => 111 | 146 => 112 | n => n, fun | 1 => 0 | n => n⟩
theorem Tryd.lays143 : Go.Proofs.Lays.n143 Tryd.prog Tryd.lays143_ren := {
  mixed := by kernel_rfl
  f143 := Tryd.func53.trans (congrArg some (by kernel_rfl))
  f217 := Tryd.func93.trans (congrArg some (by kernel_rfl))
  f219 := Tryd.func77.trans (congrArg some (by kernel_rfl))
  f224 := Tryd.func82.trans (congrArg some (by kernel_rfl))
  f225 := Tryd.func83.trans (congrArg some (by kernel_rfl))
  f266 := Tryd.func104.trans (congrArg some (by kernel_rfl))
  f267 := Tryd.func94.trans (congrArg some (by kernel_rfl))
  f314 := Tryd.func105.trans (congrArg some (by kernel_rfl))
  t3 := Tryd.underlying3
  a3 := Tryd.isAgg3
  z3 := Tryd.sizeOf3
  v3 := Tryd.zeroValue3
  t4 := Tryd.underlying4
  a4 := Tryd.isAgg4
  z4 := Tryd.sizeOf4
  v4 := Tryd.zeroValue4
  t5 := Tryd.underlying5
  a5 := Tryd.isAgg5
  z5 := Tryd.sizeOf5
  v5 := Tryd.zeroValue5
  t9 := Tryd.underlying9
  a9 := Tryd.isAgg9
  z9 := Tryd.sizeOf9
  v9 := Tryd.zeroValue9
  t46 := Tryd.underlying103
  a46 := Tryd.isAgg103
  z46 := Tryd.sizeOf103
  v46 := Tryd.zeroValue103
  t51 := Tryd.underlying111
  a51 := Tryd.isAgg111
  z51 := Tryd.sizeOf111
  v51 := Tryd.zeroValue111
  t146 := Tryd.underlying112
  a146 := Tryd.isAgg112
  z146 := Tryd.sizeOf112
  v146 := Tryd.zeroValue112
  g1 := by kernel_rfl }
end Go.Proofs
namespace Go.Proofs.YtbolajljfkjfaaaDoor
open Go.RowKit

theorem clean_any (l : List UInt8) (w : World) (hm : MaxIs w) (hl : l.length < 100000) :
    Calls Tryd.prog 31 #[.string ⟨⟨l⟩⟩] w fun e w' => e = .returned (.string ⟨⟨cleanL l⟩⟩) ∧ Ext w w' := by
  have hc := fun W (hx : MaxIs W) => replaceAll_any l [0] unkL W hx hl (by decide) (by decide)
  rw [replaceAll_one 0 unkL l (by decide)] at hc
  go_enter Tryd.func31, Tryd.ntmps31
  go_wp2_with (go_at_call 51; refine (hc _ hm).mono ?_; rintro e w1 ⟨rfl, x1⟩)
  go_ret
  exact ⟨rfl, x1⟩
theorem index_any (s t : List UInt8) (w : World) (hm : MaxIs w) (hl : s.length < 100000) :
    Calls Tryd.prog 53 #[.string ⟨⟨s⟩⟩, .string ⟨⟨t⟩⟩] w fun e w' => e = .returned (.int .i64 (match idxP t s with | none => -1 | some i => (i : Int))) ∧ w = w' := by
  obtain ⟨m, hm⟩ := hm
  refine (Any.strings_Index Tryd.lays143 ⟨⟨s⟩⟩ ⟨⟨t⟩⟩ m w (by show s.length < 4294967281; omega) hm).mono ?_
  rintro e w' ⟨rfl, rfl⟩
  refine ⟨?_, rfl⟩
  exact ret_inj (congrArg _ (idxP_index t s))
/-- What stands behind a front at a place. -/
def behI (f s : List UInt8) (i : Int) : Option (List UInt8) := if i < 0 ∨ (s.length : Int) < i then none else if standsB f (s.drop i.toNat) then some ((s.drop i.toNat).drop f.length) else none
theorem behI_nat (f s : List UInt8) (k : Nat) (h : k ≤ s.length) : behI f s k = if standsB f (s.drop k) then some ((s.drop k).drop f.length) else none := by
  unfold behI
  rw [if_neg (by omega), Int.toNat_natCast]
def optS (o : Option (List UInt8)) : Value := .tuple #[.string ⟨⟨o.getD []⟩⟩, .bool o.isSome]
set_option maxHeartbeats 1000000 in
theorem behind_any (s f : List UInt8) (i : Int) (w : World) (hs : s.length < 100000) (hf : f.length < 100000) (h0 : -9223372036854775808 ≤ i) (h1 : i ≤ 9223372036854775807) :
    Calls Tryd.prog 28 #[.string ⟨⟨s⟩⟩, .int .i64 i, .string ⟨⟨f⟩⟩] w fun e w' => e = .returned (optS (behI f s i)) ∧ Ext w w' := by
  unfold behI
  by_cases hneg : i < 0
  · rw [if_pos (.inl hneg)]
    go_enter Tryd.func28, Tryd.ntmps28
    go_wp2_with fail
    go_ret2
    exact ⟨rfl, Ext.refl _⟩
  · by_cases hbig : (s.length : Int) < i
    · rw [if_pos (.inr hbig)]
      go_enter Tryd.func28, Tryd.ntmps28
      go_wp2_with fail
      go_ret2
      exact ⟨rfl, Ext.refl _⟩
    · rw [if_neg (by omega)]
      obtain ⟨k, rfl⟩ : ∃ k : Nat, i = k := ⟨i.toNat, by omega⟩
      rw [Int.toNat_natCast]
      have hk : k ≤ s.length := by omega
      by_cases hlen : s.length - k < f.length
      · have e : standsB f (s.drop k) = false := by
          unfold standsB
          have : decide (f.length ≤ (s.drop k).length) = false := by simp; omega
          rw [this]; rfl
        rw [e]
        have hl2 : (s.length : Int) - k < f.length := by omega
        go_enter Tryd.func28, Tryd.ntmps28
        go_wp2_with fail
        go_ret2
        exact ⟨rfl, Ext.refl _⟩
      · have hl2 : ¬ ((s.length : Int) - k < f.length) := by omega
        have cs : ∀ W, Calls Tryd.prog 47 #[.string ⟨⟨(s.drop k).take f.length⟩⟩, .string ⟨⟨f⟩⟩] W fun e w' => e = .returned (.bool (standsB f (s.drop k))) ∧ Ext W w' := by
          intro W
          have e : standsB f (s.drop k) = (lowL ((s.drop k).take f.length) == lowL f) := by
            unfold standsB
            have : decide (f.length ≤ (s.drop k).length) = true := by simp; omega
            rw [this]; rfl
          rw [e]
          exact same_any _ _ W (by unfold maxLen; simp; omega) (by unfold maxLen; omega)
        cases hst : standsB f (s.drop k) with
        | false =>
          rw [hst] at cs
          go_enter Tryd.func28, Tryd.ntmps28
          go_wp2_with (go_at_call 47; refine (cs _).mono ?_; rintro e w1 ⟨rfl, x1⟩)
          go_ret2
          exact ⟨rfl, x1⟩
        | true =>
          rw [hst] at cs
          go_enter Tryd.func28, Tryd.ntmps28
          go_wp2_with (go_at_call 47; refine (cs _).mono ?_; rintro e w1 ⟨rfl, x1⟩)
          go_ret2
          exact ⟨rfl, x1⟩
def up3 (x : List UInt8 × Nat × Bool) : Value := .tuple #[.string ⟨⟨x.1⟩⟩, .int .i64 (x.2.1 : Int), .bool x.2.2]
theorem upto_any (s t : List UInt8) (w : World) (hm : MaxIs w) (hl : s.length < 100000) (ht : t.length < 100000) :
    Calls Tryd.prog 34 #[.string ⟨⟨s⟩⟩, .string ⟨⟨t⟩⟩] w fun e w' => e = .returned (up3 (upB t s)) ∧ w = w' := by
  have ci := fun W hx => index_any s t W hx hl
  unfold upB
  cases hi : idxP t s with
  | none =>
    simp only [hi] at ci
    go_enter Tryd.func34, Tryd.ntmps34
    go_wp2_with (go_at_call 53; refine (ci _ hm).mono ?_; rintro e w1 ⟨rfl, rfl⟩)
    go_ret3
    exact ⟨rfl, rfl⟩
  | some k =>
    simp only [hi] at ci
    have hk := idxP_le hi
    go_enter Tryd.func34, Tryd.ntmps34
    go_wp2_with (go_at_call 53; refine (ci _ hm).mono ?_; rintro e w1 ⟨rfl, rfl⟩)
    go_ret3
    exact ⟨rfl, rfl⟩
/-- A token without attributes. -/
def tokV (k : Int) (n t : List UInt8) (q : Bool) (f o : Int) : Value := .agg #[.int .i64 k, .string ⟨⟨n⟩⟩, .string ⟨⟨t⟩⟩, .slice none 0 0, .bool false, .bool false, .bool q, .int .i64 f, .int .i64 o]
set_option maxHeartbeats 1000000 in
theorem token_any (k f o : Int) (t : List UInt8) (w : World) :
    Calls Tryd.prog 30 #[.int .i64 k, .int .i64 f, .int .i64 o, .string ⟨⟨t⟩⟩] w fun e w' => e = .returned (.tuple #[tokV k [] t false f o, .int .i64 o]) ∧ Ext w w' := by
  go_enter Tryd.func30, Tryd.ntmps30
  go_wp2_with fail
  refine bodyPost_ret (v := .tuple #[tokV k [] t false f o, .int .i64 o]) (by simp [results, Tryd.results30, go_sem, tokV]) rfl ⟨rfl, ?_⟩
  go_grown
end Go.Proofs.YtbolajljfkjfaaaDoor
