/-
  What is proved: what the reference of package kinds computes: contracts. Conditions: names of at most 300 bytes.
-/
import Derived.Test.YtlbagmmkeekfjaaDoorKndW
namespace Go.Proofs.YtlbagmmkeekfjaaDoor
open Go.RowKit

def strV (l : List UInt8) : Value := .string ⟨⟨l⟩⟩
set_option maxHeartbeats 400000 in
theorem among_any (ws : List (List UInt8)) (n : List UInt8) (b len : Nat) (w : World) (hl : ws.length = len) (hl2 : len ≤ 1000) (hc : ∀ k x, ws[k]? = some x → w.cell? ⟨b, k, none⟩ = some (strV x)) :
    Calls Tryd.prog 24 #[.string ⟨⟨n⟩⟩, .slice (some ⟨b, 0, none⟩) len len] w fun e w' => e = .returned (.bool (memB ws n)) ∧ w = w' := by
  have HC := Lib.hid hc
  have HL := Lib.hid hl
  clear hc hl
  go_enter Tryd.func24, Tryd.ntmps24
  go_wp2_with fail
  go_loop [5] (fun i => ∃ k : Nat, k ≤ len ∧ i = .int .i64 k ∧ memB (ws.take k) n = false) (fun i => len - (intOf i).toNat)
  case atStart => exact ⟨0, by omega, rfl, rfl⟩
  case round =>
    obtain ⟨k, hk, rfl, hm⟩ := hrel
    have HM := Lib.hid hm
    clear hm
    by_cases hlt : k < len
    · have hlt2 : k < ws.length := by rw [HL.out]; exact hlt
      obtain ⟨x, hx⟩ : ∃ x, ws[k] = x := ⟨_, rfl⟩
      have hcell := HC.out k x (by rw [List.getElem?_eq_getElem hlt2, hx])
      have hts : ws.take (k + 1) = ws.take k ++ [x] := by rw [List.take_succ_eq_append_getElem hlt2, hx]
      have HTS := Lib.hid hts
      have HX := Lib.hid hx
      clear hts hx
      unfold strV at hcell
      by_cases hxn : x = n
      · have hr : memB ws n = true := by
          unfold memB
          simp only [decide_eq_true_eq]
          rw [← hxn, ← HX.out]
          exact List.getElem_mem _
        have HR := Lib.hid hr
        clear hr
        have hxb : (x == n) = true := by simpa using hxn
        clear hxn
        go_wp2
        go_ret
        exact ⟨ret_inj (bool_eq HR.out.symm), rfl⟩
      · have hr : memB (ws.take (k + 1)) n = false := by
          have h1 := HM.out
          unfold memB at h1 ⊢
          rw [HTS.out]
          simp only [decide_eq_false_iff_not, List.mem_append, List.mem_singleton, not_or] at h1 ⊢
          exact ⟨h1, fun e => hxn e.symm⟩
        have HR := Lib.hid hr
        have hxb : (x == n) = false := by simpa using hxn
        clear hxn hr
        go_wp2
        go_round
        case rel => exact ⟨k + 1, by omega, by go_num, HR.out⟩
        case measure => simp [intOf]; omega
    · have hm2 : memB ws n = false := by
        have h1 := HM.out
        rw [List.take_of_length_le (by rw [HL.out]; omega)] at h1
        exact h1
      have HR := Lib.hid hm2
      clear hm2
      go_wp2
      go_ret
      exact ⟨ret_inj (bool_eq HR.out.symm), rfl⟩
theorem among_new (ws : List (List UInt8)) (n : List UInt8) (len : Nat) (w : World) (arr : Array Value) (hl : ws.length = len) (hl2 : len ≤ 1000) (ha : arr = (ws.map strV).toArray) :
    Calls Tryd.prog 24 #[.string ⟨⟨n⟩⟩, .slice (some ⟨w.heap.size, 0, none⟩) len len] (w.alloc (.cells arr 9)) fun e w' => e = .returned (.bool (memB ws n)) ∧ (w.alloc (.cells arr 9)) = w' := by
  refine among_any ws n _ len _ hl hl2 fun k x hk => ?_
  have hh : (w.alloc (.cells arr 9)).heap[w.heap.size]? = some (.cells arr 9) := heap_alloc_new w _
  have hk2 : arr[k]? = some (strV x) := by rw [ha]; simp [hk]
  simp only [World.cell?, hh]
  exact hk2
set_option maxHeartbeats 400000 in
theorem refFormatting_any (n : List UInt8) (w : World) :
    Calls Tryd.prog 12 #[.string ⟨⟨n⟩⟩] w fun e w' => e = .returned (.bool (memB formattingW n)) ∧ Below w.heap.size w w' := by
  go_enter Tryd.func12, Tryd.ntmps12
  go_wp2_with fail
  refine (among_new formattingW n _ _ _ rfl (by decide) (by kernel_rfl)).mono ?_
  rintro e w' ⟨rfl, rfl⟩
  go_wp2_with fail
  go_ret
  exact ⟨rfl, (Below.refl _ _).alloc (Nat.le_refl _) _⟩
set_option maxHeartbeats 400000 in
theorem refVoid_any (n : List UInt8) (w : World) :
    Calls Tryd.prog 14 #[.string ⟨⟨n⟩⟩] w fun e w' => e = .returned (.bool (memB voidW n)) ∧ Below w.heap.size w w' := by
  go_enter Tryd.func14, Tryd.ntmps14
  go_wp2_with fail
  refine (among_new voidW n _ _ _ rfl (by decide) (by kernel_rfl)).mono ?_
  rintro e w' ⟨rfl, rfl⟩
  go_wp2_with fail
  go_ret
  exact ⟨rfl, (Below.refl _ _).alloc (Nat.le_refl _) _⟩
set_option maxHeartbeats 400000 in
theorem refImplied_any (n : List UInt8) (w : World) :
    Calls Tryd.prog 16 #[.string ⟨⟨n⟩⟩] w fun e w' => e = .returned (.bool (memB impliedW n)) ∧ Below w.heap.size w w' := by
  go_enter Tryd.func16, Tryd.ntmps16
  go_wp2_with fail
  refine (among_new impliedW n _ _ _ rfl (by decide) (by kernel_rfl)).mono ?_
  rintro e w' ⟨rfl, rfl⟩
  go_wp2_with fail
  go_ret
  exact ⟨rfl, (Below.refl _ _).alloc (Nat.le_refl _) _⟩
set_option maxHeartbeats 400000 in
theorem refThorough_any (n : List UInt8) (w : World) :
    Calls Tryd.prog 18 #[.string ⟨⟨n⟩⟩] w fun e w' => e = .returned (.bool (thoB n)) ∧ Below w.heap.size w w' := by
  unfold thoB
  cases hi : memB impliedW n
  · go_enter Tryd.func18, Tryd.ntmps18
    go_wp2_with fail
    refine (refImplied_any _ _).mono ?_
    rintro e w1 ⟨rfl, b1⟩
    go_wp2_with fail
    refine (among_new thoroughW n _ _ _ rfl (by decide) (by kernel_rfl)).mono ?_
    rintro e w' ⟨rfl, rfl⟩
    go_wp2_with fail
    go_ret
    exact ⟨rfl, b1.alloc b1.size _⟩
  · go_enter Tryd.func18, Tryd.ntmps18
    go_wp2_with fail
    refine (refImplied_any _ _).mono ?_
    rintro e w1 ⟨rfl, b1⟩
    go_wp2_with fail
    go_ret
    exact ⟨rfl, b1⟩
set_option maxRecDepth 100000 in
set_option maxHeartbeats 1000000 in
theorem refSpecial_any (space : Int) (n : List UInt8) (w : World) :
    Calls Tryd.prog 10 #[.int .i64 space, .string ⟨⟨n⟩⟩] w fun e w' => e = .returned (.bool (spB space n)) ∧ Below w.heap.size w w' := by
  by_cases h0 : space = 0
  · subst h0
    go_enter Tryd.func10, Tryd.ntmps10
    go_wp2_with fail
    refine (among_new specialW n _ _ _ rfl (by decide) (by kernel_rfl)).mono ?_
    rintro e w' ⟨rfl, rfl⟩
    go_wp2_with fail
    go_ret
    exact ⟨rfl, (Below.refl _ _).alloc (Nat.le_refl _) _⟩
  by_cases h2 : space = 2
  · subst h2
    go_enter Tryd.func10, Tryd.ntmps10
    go_wp2_with fail
    refine (among_new mathW n _ _ _ rfl (by decide) (by kernel_rfl)).mono ?_
    rintro e w' ⟨rfl, rfl⟩
    go_wp2_with fail
    go_ret
    exact ⟨rfl, (Below.refl _ _).alloc (Nat.le_refl _) _⟩
  by_cases h1 : space = 1
  · subst h1
    go_enter Tryd.func10, Tryd.ntmps10
    go_wp2_with fail
    refine (among_new svgW n _ _ _ rfl (by decide) (by kernel_rfl)).mono ?_
    rintro e w' ⟨rfl, rfl⟩
    go_wp2_with fail
    go_ret
    exact ⟨rfl, (Below.refl _ _).alloc (Nat.le_refl _) _⟩
  have e : spB space n = false := by simp [spB, h0, h1, h2]
  rw [e]
  have k0 : (space == 0) = false := by simpa using h0
  have k1 : (space == 1) = false := by simpa using h1
  have k2 : (space == 2) = false := by simpa using h2
  clear e h0 h1 h2
  go_enter Tryd.func10, Tryd.ntmps10
  go_wp2_with fail
  go_ret
  exact ⟨rfl, Below.refl _ _⟩
theorem heading_iff (a b : UInt8) : memB headingsW [a, b] = decide (a.toNat = 104 ∧ 49 ≤ b.toNat ∧ b.toNat ≤ 54) := by
  by_cases ha : a = 104
  · subst ha
    have key : ∀ n : Fin 256, memB headingsW [104, UInt8.ofNat n] = decide (49 ≤ n.val ∧ n.val ≤ 54) := by decide +kernel
    have := key ⟨b.toNat, b.toNat_lt⟩
    simp only [UInt8.ofNat_toNat] at this
    rw [this]
    have e : (104 : UInt8).toNat = 104 := rfl
    simp [e]
  · have h1 : memB headingsW [a, b] = false := by
      unfold memB headingsW
      simp [ha]
    have h2 : ¬ a.toNat = 104 := fun e => ha (UInt8.toNat.inj (by have : (104 : UInt8).toNat = 104 := rfl; omega))
    rw [h1]
    simp [h2]
theorem heading_len (n : List UInt8) (h : n.length ≠ 2) : memB headingsW n = false := by
  unfold memB headingsW
  simp only [decide_eq_false_iff_not, List.mem_cons, List.not_mem_nil, or_false]
  rintro (e | e | e | e | e | e) <;> subst e <;> simp at h
set_option maxHeartbeats 400000 in
theorem refHeading_any (n : List UInt8) (w : World) :
    Calls Tryd.prog 20 #[.string ⟨⟨n⟩⟩] w fun e w' => e = .returned (.bool (memB headingsW n)) ∧ w = w' := by
  by_cases h : n.length = 2
  · match n, h with
    | [a, b], _ =>
      rw [heading_iff]
      by_cases ha : ((a.toNat : Int) == 104) = true
      · have ha2 : a.toNat = 104 := by simp only [beq_iff_eq] at ha; omega
        have hr : decide (a.toNat = 104 ∧ 49 ≤ b.toNat ∧ b.toNat ≤ 54) = (decide (49 ≤ (b.toNat : Int)) && decide ((b.toNat : Int) ≤ 54)) := by
          rw [Bool.eq_iff_iff]
          simp only [decide_eq_true_eq, Bool.and_eq_true]
          omega
        rw [hr]
        clear hr ha2
        rcases (by omega : b.toNat < 49 ∨ (49 ≤ b.toNat ∧ b.toNat ≤ 54) ∨ (49 ≤ b.toNat ∧ 54 < b.toNat)) with h1 | ⟨h1, h2⟩ | ⟨h1, h2⟩
        all_goals
          go_enter Tryd.func20, Tryd.ntmps20
          go_wp2_with fail
          go_ret
          refine ⟨ret_inj (bool_eq ?_), rfl⟩
          simp
          try omega
      · have ha' : ((a.toNat : Int) == 104) = false := by simpa using ha
        have hr : decide (a.toNat = 104 ∧ 49 ≤ b.toNat ∧ b.toNat ≤ 54) = false := by
          simp only [beq_eq_false_iff_ne, ne_eq] at ha'
          simp only [decide_eq_false_iff_not]
          omega
        rw [hr]
        clear hr ha
        go_enter Tryd.func20, Tryd.ntmps20
        go_wp2_with fail
        go_ret
        exact ⟨rfl, rfl⟩
  · have hr := heading_len n h
    rw [hr]
    have h' : ((n.length : Int) == 2) = false := by rw [beq_eq_false_iff_ne]; omega
    clear hr h
    go_enter Tryd.func20, Tryd.ntmps20
    go_wp2_with fail
    go_ret
    exact ⟨rfl, rfl⟩
end Go.Proofs.YtlbagmmkeekfjaaDoor
