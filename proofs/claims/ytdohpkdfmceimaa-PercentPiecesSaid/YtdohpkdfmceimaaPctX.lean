/-
  What is proved: what the encoders' own tables compute: contracts. No condition.
-/
import Derived.Test.YtdohpkdfmceimaaPctW
namespace Go.Proofs.Ytdohpkdfmceimaa
open Go.RowKit

set_option maxHeartbeats 400000 in
theorem more2 (w : World) : Calls Try.prog 12 #[.int .i64 2] w fun e w' => e = .returned (.string ⟨⟨moreL 2⟩⟩) ∧ w = w' := by
  go_enter Try.func12, Try.ntmps12
  go_wp2_with fail
  go_ret
  exact ⟨rfl, rfl⟩
set_option maxHeartbeats 400000 in
theorem more4 (w : World) : Calls Try.prog 12 #[.int .i64 4] w fun e w' => e = .returned (.string ⟨⟨moreL 4⟩⟩) ∧ w = w' := by
  go_enter Try.func12, Try.ntmps12
  go_wp2_with (go_at_call 12; refine (more2 _).mono ?_; rintro e w' ⟨rfl, rfl⟩)
  go_ret
  exact ⟨rfl, rfl⟩
set_option maxHeartbeats 400000 in
theorem more5 (w : World) : Calls Try.prog 12 #[.int .i64 5] w fun e w' => e = .returned (.string ⟨⟨moreL 5⟩⟩) ∧ w = w' := by
  go_enter Try.func12, Try.ntmps12
  go_wp2_with (go_at_call 12; refine (more4 _).mono ?_; rintro e w' ⟨rfl, rfl⟩)
  go_ret
  exact ⟨rfl, rfl⟩
set_option maxHeartbeats 400000 in
theorem more_any (k : Int) (w : World) : Calls Try.prog 12 #[.int .i64 k] w fun e w' => e = .returned (.string ⟨⟨moreL k⟩⟩) ∧ w = w' := by
  by_cases h2 : k = 2
  · subst h2; exact more2 w
  by_cases h4 : k = 4
  · subst h4; exact more4 w
  by_cases h5 : k = 5
  · subst h5; exact more5 w
  by_cases h1 : k = 1
  · subst h1
    go_enter Try.func12, Try.ntmps12
    go_wp2_with fail
    go_ret
    exact ⟨rfl, rfl⟩
  by_cases h3 : k = 3
  · subst h3
    go_enter Try.func12, Try.ntmps12
    go_wp2_with (go_at_call 12; refine (more2 _).mono ?_; rintro e w' ⟨rfl, rfl⟩)
    go_ret
    exact ⟨rfl, rfl⟩
  by_cases h6 : k = 6
  · subst h6
    go_enter Try.func12, Try.ntmps12
    go_wp2_with (go_at_call 12; refine (more5 _).mono ?_; rintro e w' ⟨rfl, rfl⟩)
    go_ret
    exact ⟨rfl, rfl⟩
  have e : moreL k = [] := by simp [moreL, h1, h2, h3, h4, h5, h6]
  rw [e]
  have k1 : (k == 1) = false := by simp [h1]
  have k2 : (k == 2) = false := by simp [h2]
  have k3 : (k == 3) = false := by simp [h3]
  have k4 : (k == 4) = false := by simp [h4]
  have k5 : (k == 5) = false := by simp [h5]
  have k6 : (k == 6) = false := by simp [h6]
  clear e h1 h2 h3 h4 h5 h6
  go_enter Try.func12, Try.ntmps12
  go_wp2_with fail
  go_ret
  exact ⟨rfl, rfl⟩

def specials : List UInt8 := [32, 34, 35, 39, 60, 62, 63, 94, 96, 123, 125, 47, 58, 59, 61, 64, 91, 92, 93, 124, 36, 37, 38, 43, 44]
theorem inSet_off (k : Int) (h1 : ¬ k = 1) (h2 : ¬ k = 2) (h3 : ¬ k = 3) (h4 : ¬ k = 4) (h5 : ¬ k = 5) (h6 : ¬ k = 6) (c : UInt8) (hc : ¬ c < 32) (hd : ¬ 126 < c) : inSet k c = false := by
  simp [inSet, moreL, h1, h2, h3, h4, h5, h6, hc, hd]
theorem inSet_plain (k : Int) (c : UInt8) (hc : ¬ c < 32) (hd : ¬ 126 < c) (h : c ∉ specials) : inSet k c = false := by
  have key : ∀ n : Fin 256, UInt8.ofNat n ∉ specials → [1, 2, 3, 4, 5, 6, 7].all (fun k => !((moreL (k : Nat)).contains (UInt8.ofNat n))) = true := by decide +kernel
  have h1 := key ⟨c.toNat, c.toNat_lt⟩
  simp only [UInt8.ofNat_toNat] at h1
  have h2 := h1 h
  simp only [List.all_cons, Bool.and_eq_true, Bool.not_eq_true'] at h2
  obtain ⟨a1, a2, a3, a4, a5, a6, a7, _⟩ := h2
  simp only [inSet, hc, hd, decide_false, Bool.false_or]
  by_cases k1 : k = 1
  · subst k1; exact a1
  by_cases k2 : k = 2
  · subst k2; exact a2
  by_cases k3 : k = 3
  · subst k3; exact a3
  by_cases k4 : k = 4
  · subst k4; exact a4
  by_cases k5 : k = 5
  · subst k5; exact a5
  by_cases k6 : k = 6
  · subst k6; exact a6
  simp [moreL, k1, k2, k3, k4, k5, k6]
theorem ne_byte {c : UInt8} {d : UInt8} (h : ¬ c = d) {n : Int} (hd : (d.toNat : Int) = n) : ((c.toNat : Int) == n) = false := by
  rw [beq_eq_false_iff_ne, ← hd]
  intro e
  exact h (UInt8.toNat.inj (by omega))
def OneRes (a : Value) (w : World) (e : Ending) (w' : World) : Prop := e = .returned a ∧ w = w'
set_option maxHeartbeats 400000 in
theorem in_low (k : Int) (c : UInt8) (w : World) (hc : c < 32 ∨ 126 < c) :
    Calls Try.prog 17 #[.int .i64 k, .int .u8 c.toNat] w (OneRes (.bool (inSet k c)) w) := by
  have e : inSet k c = true := by rcases hc with h | h <;> simp [inSet, h]
  rw [e]
  clear e
  simp only [UInt8.lt_iff_toNat_lt] at hc
  have h1 : (32 : UInt8).toNat = 32 := rfl
  have h2 : (126 : UInt8).toNat = 126 := rfl
  rw [h1, h2] at hc
  clear h1 h2
  rcases hc with h | h
  · go_enter Try.func17, Try.ntmps17
    go_wp2
    go_ret
    exact ⟨rfl, rfl⟩
  · have h' : ¬ c.toNat < 32 := by omega
    go_enter Try.func17, Try.ntmps17
    go_wp2
    go_ret
    exact ⟨rfl, rfl⟩
set_option maxHeartbeats 1000000 in
theorem in_plain (k : Int) (c : UInt8) (w : World) (hc : ¬ c < 32) (hd : ¬ 126 < c) (h : c ∉ specials) :
    Calls Try.prog 17 #[.int .i64 k, .int .u8 c.toNat] w (OneRes (.bool (inSet k c)) w) := by
  rw [inSet_plain k c hc hd h]
  simp only [UInt8.lt_iff_toNat_lt] at hc hd
  have h1 : (32 : UInt8).toNat = 32 := rfl
  have h2 : (126 : UInt8).toNat = 126 := rfl
  rw [h1] at hc
  rw [h2] at hd
  clear h1 h2
  simp only [specials, List.mem_cons, List.not_mem_nil, or_false, not_or] at h
  obtain ⟨a1, a2, a3, a4, a5, a6, a7, a8, a9, a10, a11, a12, a13, a14, a15, a16, a17, a18, a19, a20, a21, a22, a23, a24, a25⟩ := h
  have b1 := ne_byte a1 (n := 32) rfl
  have b2 := ne_byte a2 (n := 34) rfl
  have b3 := ne_byte a3 (n := 35) rfl
  have b4 := ne_byte a4 (n := 39) rfl
  have b5 := ne_byte a5 (n := 60) rfl
  have b6 := ne_byte a6 (n := 62) rfl
  have b7 := ne_byte a7 (n := 63) rfl
  have b8 := ne_byte a8 (n := 94) rfl
  have b9 := ne_byte a9 (n := 96) rfl
  have b10 := ne_byte a10 (n := 123) rfl
  have b11 := ne_byte a11 (n := 125) rfl
  have b12 := ne_byte a12 (n := 47) rfl
  have b13 := ne_byte a13 (n := 58) rfl
  have b14 := ne_byte a14 (n := 59) rfl
  have b15 := ne_byte a15 (n := 61) rfl
  have b16 := ne_byte a16 (n := 64) rfl
  have b17 := ne_byte a17 (n := 91) rfl
  have b18 := ne_byte a18 (n := 92) rfl
  have b19 := ne_byte a19 (n := 93) rfl
  have b20 := ne_byte a20 (n := 124) rfl
  have b21 := ne_byte a21 (n := 36) rfl
  have b22 := ne_byte a22 (n := 37) rfl
  have b23 := ne_byte a23 (n := 38) rfl
  have b24 := ne_byte a24 (n := 43) rfl
  have b25 := ne_byte a25 (n := 44) rfl
  clear a1 a2 a3 a4 a5 a6 a7 a8 a9 a10 a11 a12 a13 a14 a15 a16 a17 a18 a19 a20 a21 a22 a23 a24 a25
  go_enter Try.func17, Try.ntmps17
  go_wp2
  all_goals
    go_ret
    exact ⟨rfl, rfl⟩
end Go.Proofs.Ytdohpkdfmceimaa
