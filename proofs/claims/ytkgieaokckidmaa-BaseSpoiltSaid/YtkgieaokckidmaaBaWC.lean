/-
  What is proved: what the law BaseWay computes: true. No condition but that lengths are ints.
-/
import Derived.Test.YtkgieaokckidmaaBaWB
namespace Go.Proofs.Ytkgieaokckidmaa
open Go.RowKit

theorem dec_none {x : List UInt8} (h : Hid (decL x = none)) (hx : x.length ≤ 100000) (w : World) : Calls Try.prog 8 #[.string ⟨⟨x⟩⟩] w fun e w' => e = .returned (.tuple #[.string ⟨⟨[]⟩⟩, .int .i64 30]) ∧ Ext w w' := by
  refine (decode_any x w hx).mono ?_
  rintro e w' ⟨rfl, he⟩
  exact ⟨by rw [h.out]; rfl, he⟩
theorem decV_len : ∀ (vs : List Nat) (u : List UInt8), decV vs = some u → u.length ≤ vs.length
  | [], u, h => by simp [decV] at h; subst h; simp
  | [_], u, h => by simp [decV] at h
  | [p, q], u, h => by
    simp only [decV] at h
    split at h
    · cases h; simp
    · cases h
  | [p, q, r], u, h => by
    simp only [decV] at h
    split at h
    · cases h; simp
    · cases h
  | p :: q :: r :: z :: t, u, h => by
    simp only [decV] at h
    cases hd : decV t with
    | none => rw [hd] at h; cases h
    | some x =>
      rw [hd] at h
      simp only [Option.map_some, Option.some.injEq] at h
      subst h
      have := decV_len t x hd
      simp only [List.length_cons]
      omega
theorem decL_len {s u : List UInt8} (h : decL s = some u) : u.length ≤ s.length := by
  obtain ⟨n, hn⟩ := bareB_split s
  have hb := congrArg List.length hn
  rw [List.length_append] at hb
  unfold decL at h
  split at h
  · cases h
  · cases hv : valsL (bareB s) with
    | none => rw [hv] at h; cases h
    | some vs =>
      rw [hv] at h
      simp only [Option.bind_some] at h
      have h1 := decV_len vs u h
      have h2 := valsL_len hv
      omega
set_option maxRecDepth 100000 in
set_option maxHeartbeats 4000000 in
theorem baseWay_walk (l : List UInt8) (w : World) (hs : l.length ≤ maxLen) :
    Calls Try.prog 5 #[.string ⟨⟨l⟩⟩] w fun e w' => e = .returned (.bool true) ∧ Below w.heap.size w w' := by
  unfold maxLen at hs
  by_cases hl : l.length ≤ 2000
  · cases hd : decL l with
    | none =>
      have D := Lib.hid hd
      clear hd
      go_enter Try.func5, Try.ntmps5
      go_wp2_with (first
        | (go_at_call 8; refine (dec_none D (by omega) _).mono ?_; rintro e w1 ⟨rfl, x1⟩)
        | (go_at_call 7; refine (lettered_any _).mono ?_; rintro e w2 ⟨rfl, x2⟩))
      go_ret
      exact ⟨rfl, Ext.trans x1 x2⟩
    | some u =>
      have D := Lib.hid hd
      have hul := decL_len hd
      obtain ⟨E, hE⟩ : ∃ E, encL u = E := ⟨_, rfl⟩
      obtain ⟨P, hP⟩ : ∃ P, plnL l = P := ⟨_, rfl⟩
      have hEl : E.length ≤ 100000 := by rw [← hE, encL_len]; omega
      have hPl : P.length ≤ 100000 := by rw [← hP, plnL_len]; omega
      have HQ : Hid (strQ E = strQ P) := Lib.hid (by rw [← hE, ← hP]; exact way l u hd)
      have HE := Lib.hid hE
      have HP := Lib.hid hP
      clear hd hE hP
      go_enter Try.func5, Try.ntmps5
      go_wp2_with (first
        | (go_at_call 8; refine (dec_some D (by omega) _).mono ?_; rintro e w1 ⟨rfl, x1⟩)
        | (go_at_call 10; refine (encode_any u _ (by omega)).mono ?_; rintro e w2 ⟨rfl, x2⟩; rw [HE.out])
        | (go_at_call 12; refine (plain_any l _ (by omega)).mono ?_; rintro e w3 ⟨rfl, x3⟩; rw [HP.out])
        | (go_at_call 14; (with_reducible refine (bareLaw_any E _ (by omega)).mono ?_); rintro e w' ⟨rfl, rfl⟩; rw [HQ.out])
        | (go_at_call 14; (with_reducible refine (bareLaw_any P _ (by omega)).mono ?_); rintro e w' ⟨rfl, rfl⟩)
        | (go_at_call 7; refine (lettered_any _).mono ?_; rintro e w4 ⟨rfl, x4⟩))
      go_ret
      exact ⟨rfl, Ext.trans (Ext.trans (Ext.trans x1 x2) x3) x4⟩
  · go_enter Try.func5, Try.ntmps5
    go_wp2_with (go_at_call 7; refine (lettered_any _).mono ?_; rintro e w7 ⟨rfl, x7⟩)
    go_ret
    exact ⟨rfl, x7⟩
end Go.Proofs.Ytkgieaokckidmaa
