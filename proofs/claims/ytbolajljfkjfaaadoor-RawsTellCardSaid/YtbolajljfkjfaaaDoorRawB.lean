/-
  What is proved: a comment's text as the program reads it: a contract. Condition: texts of less than 100000 bytes.
-/
import Derived.Test.YtbolajljfkjfaaaDoorRawA
import Derived.Test.YtbolajljfkjfaaaDoorBld
namespace Go.Proofs.YtbolajljfkjfaaaDoor
open Go.RowKit

theorem pend_len (st : Nat) : (pend st).length ≤ 3 := by
  unfold pend
  repeat' split
  all_goals simp
/-- What is read, and what is still to come. -/
def CmAt (r acc : List UInt8) (st k : Nat) : Prop := acc ++ (cmM st (r.drop k)).1 = (cmM 0 r).1 ∧ k + (cmM st (r.drop k)).2 = (cmM 0 r).2
theorem CmAt.go {r acc p : List UInt8} {st st' k : Nat} {c : UInt8} (h : CmAt r acc st k) (hk : k < r.length) (hc : r[k] = c) (e : ∀ t, cmM st (c :: t) = bump p (cmM st' t)) : CmAt r (acc ++ p) st' (k + 1) := by
  obtain ⟨h1, h2⟩ := h
  rw [drop_cons hk, hc, e] at h1 h2
  simp only [bump] at h1 h2
  exact ⟨by rw [List.append_assoc]; exact h1, by omega⟩
theorem CmAt.stop {r acc : List UInt8} {st k : Nat} {c : UInt8} (h : CmAt r acc st k) (hk : k < r.length) (hc : r[k] = c) (e : ∀ t, cmM st (c :: t) = ([], 1)) : (cmM 0 r).1 = acc ∧ (cmM 0 r).2 = k + 1 := by
  obtain ⟨h1, h2⟩ := h
  rw [drop_cons hk, hc, e] at h1 h2
  simp at h1
  exact ⟨h1.symm, h2.symm⟩
theorem CmAt.done {r acc : List UInt8} {st : Nat} (h : CmAt r acc st r.length) : (cmM 0 r).1 = acc ∧ (cmM 0 r).2 = r.length := by
  obtain ⟨h1, h2⟩ := h
  rw [List.drop_eq_nil_of_le (Nat.le_refl _)] at h1 h2
  have e : cmM st [] = ([], 0) := by cases st <;> rfl
  rw [e] at h1 h2
  simp at h1 h2
  exact ⟨h1.symm, h2.symm⟩
theorem CmAt.len {r acc : List UInt8} {st k : Nat} (h : CmAt r acc st k) : acc.length ≤ r.length := by
  have h1 := congrArg List.length h.1
  have h2 := (cmM_len r).1
  simp only [List.length_append] at h1
  omega
def cmV (x : List UInt8 × Nat) : Value := .tuple #[.string ⟨⟨x.1⟩⟩, .int .i64 (x.2 : Int)]
/-- The state's variable holds it. -/
def CmS (v : Value) (r acc : List UInt8) (k : Nat) : Prop :=
  (v = .int .i64 0 ∧ Hid (CmAt r acc 0 k)) ∨ (v = .int .i64 1 ∧ Hid (CmAt r acc 1 k)) ∨ (v = .int .i64 2 ∧ Hid (CmAt r acc 2 k)) ∨
  (v = .int .i64 3 ∧ Hid (CmAt r acc 3 k)) ∨ (v = .int .i64 4 ∧ Hid (CmAt r acc 4 k)) ∨ (v = .int .i64 5 ∧ Hid (CmAt r acc 5 k))
theorem CmS.of {r acc : List UInt8} {k st : Nat} (h : CmAt r acc st k) (hs : st ≤ 5) : CmS (.int .i64 (st : Int)) r acc k := by
  have : st = 0 ∨ st = 1 ∨ st = 2 ∨ st = 3 ∨ st = 4 ∨ st = 5 := by omega
  rcases this with rfl | rfl | rfl | rfl | rfl | rfl
  · exact .inl ⟨rfl, Lib.hid h⟩
  · exact .inr (.inl ⟨rfl, Lib.hid h⟩)
  · exact .inr (.inr (.inl ⟨rfl, Lib.hid h⟩))
  · exact .inr (.inr (.inr (.inl ⟨rfl, Lib.hid h⟩)))
  · exact .inr (.inr (.inr (.inr (.inl ⟨rfl, Lib.hid h⟩))))
  · exact .inr (.inr (.inr (.inr (.inr ⟨rfl, Lib.hid h⟩))))
theorem bld_dash (b : Nat) (l : List UInt8) (w : World) (h : IsB b l w) (hlen : l.length ≤ 100000) :
    Calls Tryd.prog 49 #[.pointer (some ⟨b, 0, none⟩), .int .u8 45] w fun e w' => e = .returned .nilIface ∧ (IsB b (l ++ [45]) w' ∧ Below b w w' ∧ OthK b w w') :=
  bld_writeByte b l 45 w h (by omega)
set_option maxRecDepth 100000 in
set_option maxHeartbeats 16000000 in
theorem comment_any (r : List UInt8) (w : World) (hr : r.length < 100000) :
    Calls Tryd.prog 29 #[.string ⟨⟨r⟩⟩] w fun e w' => e = .returned (cmV (cmM 0 r)) ∧ Ext w w' := by
  go_enter Tryd.func29, Tryd.ntmps29
  go_wp2_with fail
  go_loopw [5, 6, 7, 10] (fun sv _ _ iv wr => ∃ (k : Nat) (acc : List UInt8), iv = .int .i64 k ∧ k ≤ r.length ∧ acc.length ≤ 100000 ∧ CmS sv r acc k ∧ IsB w.heap.size acc wr ∧ Below w.heap.size w wr) (fun _ _ _ iv _ => r.length - (intOf iv).toNat)
  case atStart =>
    have h0 : CmAt r [] 0 0 := ⟨by simp, by simp⟩
    exact ⟨0, [], rfl, by omega, by simp, CmS.of (st := 0) h0 (by decide), IsB.fresh w, (Below.refl _ _).alloc (by simp) _⟩
  case round =>
    obtain ⟨k, acc, rfl, hk, hal, hS, hI, hx⟩ := hrel
    by_cases hlt : k < r.length
    · obtain ⟨c, hc⟩ : ∃ c, r[k] = c := ⟨_, rfl⟩
      have HC := Lib.hid hc
      have hcl := c.toNat_lt
      have k1 : (k : Int) < (r.length : Int) := by omega
      have e62 : ((c.toNat : Int) == 62) = (c == 62) := u8_beq (x := 62)
      have e45 : ((c.toNat : Int) == 45) = (c == 45) := u8_beq (x := 45)
      have e33 : ((c.toNat : Int) == 33) = (c == 33) := u8_beq (x := 33)
      rcases hS with ⟨rfl, HR⟩ | ⟨rfl, HR⟩ | ⟨rfl, HR⟩ | ⟨rfl, HR⟩ | ⟨rfl, HR⟩ | ⟨rfl, HR⟩
      · by_cases h62 : c = 62
        · have f62 : ((c.toNat : Int) == 62) = true := by rw [e62, h62]; rfl
          have f62n : ((c.toNat : Int) != 62) = false := by unfold bne; rw [f62]; rfl
          have f45 : ((c.toNat : Int) == 45) = false := by rw [e45, h62]; rfl
          have f33 : ((c.toNat : Int) == 33) = false := by rw [e33, h62]; rfl
          clear e62 e45 e33
          have E := Lib.hid (HR.out.stop hlt hc (fun t => by simp [cmM, h62]))
          clear HR
          go_wp2_with (go_at_call 48; refine (bld_string _ _ _ (by assumption)).mono ?_; rintro e w' ⟨rfl, h1, h2, h3⟩)
          go_ret2
          exact ⟨ret_inj (by unfold cmV; rw [E.out.1, E.out.2]; simp), hx.trans h2⟩
        · by_cases h45 : c = 45
          · have f62 : ((c.toNat : Int) == 62) = false := by rw [e62, h45]; rfl
            have f45 : ((c.toNat : Int) == 45) = true := by rw [e45, h45]; rfl
            have f33 : ((c.toNat : Int) == 33) = false := by rw [e33, h45]; rfl
            clear e62 e45 e33
            have E : Hid (CmAt r (acc) 1 (k + 1)) := Lib.hid (by have := HR.out.go (p := []) (st' := 1) hlt hc (fun t => by simp [cmM, pend, h45]); rwa [List.append_nil] at this)
            have hal2 := E.out.len
            clear HR
            clear h45
            go_wp2_with fail
            go_roundw
            case rel => exact ⟨k + 1, acc, by go_num, by omega, by omega, CmS.of (st := 1) E.out (by decide), hI, hx⟩
            case measure => simp [intOf]; omega
          · have f62 : ((c.toNat : Int) == 62) = false := by rw [e62]; simpa using h62
            have f45 : ((c.toNat : Int) == 45) = false := by rw [e45]; simpa using h45
            clear e62 e45 e33
            rcases Bool.eq_false_or_eq_true ((c.toNat : Int) == 33) with f33 | f33
            · have E : Hid (CmAt r (acc ++ [c]) 2 (k + 1)) := Lib.hid (HR.out.go (p := [c]) (st' := 2) hlt hc (fun t => by simp [cmM, pend, h62, h45]))
              have hal2 := E.out.len
              clear HR
              go_wp2_with (go_at_call 49; refine (bld_writeByte _ _ c _ (by assumption) (by simp; omega)).mono ?_; rintro e w' ⟨rfl, h1, h2, h3⟩)
              go_roundw
              case rel => exact ⟨k + 1, acc ++ [c], by go_num, by omega, by omega, CmS.of (st := 2) E.out (by decide), h1, hx.trans h2⟩
              case measure => simp [intOf]; omega
            · have E : Hid (CmAt r (acc ++ [c]) 2 (k + 1)) := Lib.hid (HR.out.go (p := [c]) (st' := 2) hlt hc (fun t => by simp [cmM, pend, h62, h45]))
              have hal2 := E.out.len
              clear HR
              go_wp2_with (go_at_call 49; refine (bld_writeByte _ _ c _ (by assumption) (by simp; omega)).mono ?_; rintro e w' ⟨rfl, h1, h2, h3⟩)
              go_roundw
              case rel => exact ⟨k + 1, acc ++ [c], by go_num, by omega, by omega, CmS.of (st := 2) E.out (by decide), h1, hx.trans h2⟩
              case measure => simp [intOf]; omega
      · by_cases h62 : c = 62
        · have f62 : ((c.toNat : Int) == 62) = true := by rw [e62, h62]; rfl
          have f62n : ((c.toNat : Int) != 62) = false := by unfold bne; rw [f62]; rfl
          have f45 : ((c.toNat : Int) == 45) = false := by rw [e45, h62]; rfl
          have f33 : ((c.toNat : Int) == 33) = false := by rw [e33, h62]; rfl
          clear e62 e45 e33
          have E := Lib.hid (HR.out.stop hlt hc (fun t => by simp [cmM, h62]))
          clear HR
          go_wp2_with (go_at_call 48; refine (bld_string _ _ _ (by assumption)).mono ?_; rintro e w' ⟨rfl, h1, h2, h3⟩)
          go_ret2
          exact ⟨ret_inj (by unfold cmV; rw [E.out.1, E.out.2]; simp), hx.trans h2⟩
        · by_cases h45 : c = 45
          · have f62 : ((c.toNat : Int) == 62) = false := by rw [e62, h45]; rfl
            have f45 : ((c.toNat : Int) == 45) = true := by rw [e45, h45]; rfl
            have f33 : ((c.toNat : Int) == 33) = false := by rw [e33, h45]; rfl
            clear e62 e45 e33
            have E : Hid (CmAt r (acc) 4 (k + 1)) := Lib.hid (by have := HR.out.go (p := []) (st' := 4) hlt hc (fun t => by simp [cmM, pend, h45]); rwa [List.append_nil] at this)
            have hal2 := E.out.len
            clear HR
            clear h45
            go_wp2_with fail
            go_roundw
            case rel => exact ⟨k + 1, acc, by go_num, by omega, by omega, CmS.of (st := 4) E.out (by decide), hI, hx⟩
            case measure => simp [intOf]; omega
          · have f62 : ((c.toNat : Int) == 62) = false := by rw [e62]; simpa using h62
            have f45 : ((c.toNat : Int) == 45) = false := by rw [e45]; simpa using h45
            clear e62 e45 e33
            rcases Bool.eq_false_or_eq_true ((c.toNat : Int) == 33) with f33 | f33
            · have E : Hid (CmAt r (acc ++ [45] ++ [c]) 2 (k + 1)) := Lib.hid (by rw [List.append_assoc]; exact HR.out.go (p := [45, c]) (st' := 2) hlt hc (fun t => by simp [cmM, pend, h62, h45]))
              have hal2 := E.out.len
              clear HR
              go_wp2_with (first | (go_at_call 50; refine (bld_writeString _ _ _ _ (by assumption) (by simp; omega)).mono ?_; rintro e w' ⟨rfl, g1, g2, g3⟩) | (go_at_call 49; refine (bld_writeByte _ _ c _ (by assumption) (by simp; omega)).mono ?_; rintro e w' ⟨rfl, h1, h2, h3⟩))
              go_roundw
              case rel => exact ⟨k + 1, acc ++ [45] ++ [c], by go_num, by omega, by omega, CmS.of (st := 2) E.out (by decide), h1, (hx.trans g2).trans h2⟩
              case measure => simp [intOf]; omega
            · have E : Hid (CmAt r (acc ++ [45] ++ [c]) 2 (k + 1)) := Lib.hid (by rw [List.append_assoc]; exact HR.out.go (p := [45, c]) (st' := 2) hlt hc (fun t => by simp [cmM, pend, h62, h45]))
              have hal2 := E.out.len
              clear HR
              go_wp2_with (first | (go_at_call 50; refine (bld_writeString _ _ _ _ (by assumption) (by simp; omega)).mono ?_; rintro e w' ⟨rfl, g1, g2, g3⟩) | (go_at_call 49; refine (bld_writeByte _ _ c _ (by assumption) (by simp; omega)).mono ?_; rintro e w' ⟨rfl, h1, h2, h3⟩))
              go_roundw
              case rel => exact ⟨k + 1, acc ++ [45] ++ [c], by go_num, by omega, by omega, CmS.of (st := 2) E.out (by decide), h1, (hx.trans g2).trans h2⟩
              case measure => simp [intOf]; omega
      · by_cases h62 : c = 62
        · have f62 : ((c.toNat : Int) == 62) = true := by rw [e62, h62]; rfl
          have f62n : ((c.toNat : Int) != 62) = false := by unfold bne; rw [f62]; rfl
          have f45 : ((c.toNat : Int) == 45) = false := by rw [e45, h62]; rfl
          have f33 : ((c.toNat : Int) == 33) = false := by rw [e33, h62]; rfl
          clear e62 e45 e33
          have E : Hid (CmAt r (acc ++ [c]) 2 (k + 1)) := Lib.hid (HR.out.go (p := [c]) (st' := 2) hlt hc (fun t => by simp [cmM, pend, h62]))
          have hal2 := E.out.len
          clear HR
          clear h62
          go_wp2_with (go_at_call 49; refine (bld_writeByte _ _ c _ (by assumption) (by simp; omega)).mono ?_; rintro e w' ⟨rfl, h1, h2, h3⟩)
          go_roundw
          case rel => exact ⟨k + 1, acc ++ [c], by go_num, by omega, by omega, CmS.of (st := 2) E.out (by decide), h1, hx.trans h2⟩
          case measure => simp [intOf]; omega
        · by_cases h45 : c = 45
          · have f62 : ((c.toNat : Int) == 62) = false := by rw [e62, h45]; rfl
            have f45 : ((c.toNat : Int) == 45) = true := by rw [e45, h45]; rfl
            have f33 : ((c.toNat : Int) == 33) = false := by rw [e33, h45]; rfl
            clear e62 e45 e33
            have E : Hid (CmAt r (acc) 3 (k + 1)) := Lib.hid (by have := HR.out.go (p := []) (st' := 3) hlt hc (fun t => by simp [cmM, pend, h45]); rwa [List.append_nil] at this)
            have hal2 := E.out.len
            clear HR
            clear h45
            go_wp2_with fail
            go_roundw
            case rel => exact ⟨k + 1, acc, by go_num, by omega, by omega, CmS.of (st := 3) E.out (by decide), hI, hx⟩
            case measure => simp [intOf]; omega
          · have f62 : ((c.toNat : Int) == 62) = false := by rw [e62]; simpa using h62
            have f45 : ((c.toNat : Int) == 45) = false := by rw [e45]; simpa using h45
            clear e62 e45 e33
            rcases Bool.eq_false_or_eq_true ((c.toNat : Int) == 33) with f33 | f33
            · have E : Hid (CmAt r (acc ++ [c]) 2 (k + 1)) := Lib.hid (HR.out.go (p := [c]) (st' := 2) hlt hc (fun t => by simp [cmM, pend, h62, h45]))
              have hal2 := E.out.len
              clear HR
              go_wp2_with (go_at_call 49; refine (bld_writeByte _ _ c _ (by assumption) (by simp; omega)).mono ?_; rintro e w' ⟨rfl, h1, h2, h3⟩)
              go_roundw
              case rel => exact ⟨k + 1, acc ++ [c], by go_num, by omega, by omega, CmS.of (st := 2) E.out (by decide), h1, hx.trans h2⟩
              case measure => simp [intOf]; omega
            · have E : Hid (CmAt r (acc ++ [c]) 2 (k + 1)) := Lib.hid (HR.out.go (p := [c]) (st' := 2) hlt hc (fun t => by simp [cmM, pend, h62, h45]))
              have hal2 := E.out.len
              clear HR
              go_wp2_with (go_at_call 49; refine (bld_writeByte _ _ c _ (by assumption) (by simp; omega)).mono ?_; rintro e w' ⟨rfl, h1, h2, h3⟩)
              go_roundw
              case rel => exact ⟨k + 1, acc ++ [c], by go_num, by omega, by omega, CmS.of (st := 2) E.out (by decide), h1, hx.trans h2⟩
              case measure => simp [intOf]; omega
      · by_cases h62 : c = 62
        · have f62 : ((c.toNat : Int) == 62) = true := by rw [e62, h62]; rfl
          have f62n : ((c.toNat : Int) != 62) = false := by unfold bne; rw [f62]; rfl
          have f45 : ((c.toNat : Int) == 45) = false := by rw [e45, h62]; rfl
          have f33 : ((c.toNat : Int) == 33) = false := by rw [e33, h62]; rfl
          clear e62 e45 e33
          have E : Hid (CmAt r (acc ++ [45] ++ [c]) 2 (k + 1)) := Lib.hid (by rw [List.append_assoc]; exact HR.out.go (p := [45, c]) (st' := 2) hlt hc (fun t => by simp [cmM, pend, h62]))
          have hal2 := E.out.len
          clear HR
          clear h62
          go_wp2_with (first | (go_at_call 50; refine (bld_writeString _ _ _ _ (by assumption) (by simp; omega)).mono ?_; rintro e w' ⟨rfl, g1, g2, g3⟩) | (go_at_call 49; refine (bld_writeByte _ _ c _ (by assumption) (by simp; omega)).mono ?_; rintro e w' ⟨rfl, h1, h2, h3⟩))
          go_roundw
          case rel => exact ⟨k + 1, acc ++ [45] ++ [c], by go_num, by omega, by omega, CmS.of (st := 2) E.out (by decide), h1, (hx.trans g2).trans h2⟩
          case measure => simp [intOf]; omega
        · by_cases h45 : c = 45
          · have f62 : ((c.toNat : Int) == 62) = false := by rw [e62, h45]; rfl
            have f45 : ((c.toNat : Int) == 45) = true := by rw [e45, h45]; rfl
            have f33 : ((c.toNat : Int) == 33) = false := by rw [e33, h45]; rfl
            clear e62 e45 e33
            have E : Hid (CmAt r (acc) 4 (k + 1)) := Lib.hid (by have := HR.out.go (p := []) (st' := 4) hlt hc (fun t => by simp [cmM, pend, h45]); rwa [List.append_nil] at this)
            have hal2 := E.out.len
            clear HR
            clear h45
            go_wp2_with fail
            go_roundw
            case rel => exact ⟨k + 1, acc, by go_num, by omega, by omega, CmS.of (st := 4) E.out (by decide), hI, hx⟩
            case measure => simp [intOf]; omega
          · have f62 : ((c.toNat : Int) == 62) = false := by rw [e62]; simpa using h62
            have f45 : ((c.toNat : Int) == 45) = false := by rw [e45]; simpa using h45
            clear e62 e45 e33
            rcases Bool.eq_false_or_eq_true ((c.toNat : Int) == 33) with f33 | f33
            · have E : Hid (CmAt r (acc ++ [45] ++ [c]) 2 (k + 1)) := Lib.hid (by rw [List.append_assoc]; exact HR.out.go (p := [45, c]) (st' := 2) hlt hc (fun t => by simp [cmM, pend, h62, h45]))
              have hal2 := E.out.len
              clear HR
              go_wp2_with (first | (go_at_call 50; refine (bld_writeString _ _ _ _ (by assumption) (by simp; omega)).mono ?_; rintro e w' ⟨rfl, g1, g2, g3⟩) | (go_at_call 49; refine (bld_writeByte _ _ c _ (by assumption) (by simp; omega)).mono ?_; rintro e w' ⟨rfl, h1, h2, h3⟩))
              go_roundw
              case rel => exact ⟨k + 1, acc ++ [45] ++ [c], by go_num, by omega, by omega, CmS.of (st := 2) E.out (by decide), h1, (hx.trans g2).trans h2⟩
              case measure => simp [intOf]; omega
            · have E : Hid (CmAt r (acc ++ [45] ++ [c]) 2 (k + 1)) := Lib.hid (by rw [List.append_assoc]; exact HR.out.go (p := [45, c]) (st' := 2) hlt hc (fun t => by simp [cmM, pend, h62, h45]))
              have hal2 := E.out.len
              clear HR
              go_wp2_with (first | (go_at_call 50; refine (bld_writeString _ _ _ _ (by assumption) (by simp; omega)).mono ?_; rintro e w' ⟨rfl, g1, g2, g3⟩) | (go_at_call 49; refine (bld_writeByte _ _ c _ (by assumption) (by simp; omega)).mono ?_; rintro e w' ⟨rfl, h1, h2, h3⟩))
              go_roundw
              case rel => exact ⟨k + 1, acc ++ [45] ++ [c], by go_num, by omega, by omega, CmS.of (st := 2) E.out (by decide), h1, (hx.trans g2).trans h2⟩
              case measure => simp [intOf]; omega
      · by_cases h62 : c = 62
        · have f62 : ((c.toNat : Int) == 62) = true := by rw [e62, h62]; rfl
          have f62n : ((c.toNat : Int) != 62) = false := by unfold bne; rw [f62]; rfl
          have f45 : ((c.toNat : Int) == 45) = false := by rw [e45, h62]; rfl
          have f33 : ((c.toNat : Int) == 33) = false := by rw [e33, h62]; rfl
          clear e62 e45 e33
          have E := Lib.hid (HR.out.stop hlt hc (fun t => by simp [cmM, h62]))
          clear HR
          go_wp2_with (go_at_call 48; refine (bld_string _ _ _ (by assumption)).mono ?_; rintro e w' ⟨rfl, h1, h2, h3⟩)
          go_ret2
          exact ⟨ret_inj (by unfold cmV; rw [E.out.1, E.out.2]; simp), hx.trans h2⟩
        · by_cases h45 : c = 45
          · have f62 : ((c.toNat : Int) == 62) = false := by rw [e62, h45]; rfl
            have f45 : ((c.toNat : Int) == 45) = true := by rw [e45, h45]; rfl
            have f33 : ((c.toNat : Int) == 33) = false := by rw [e33, h45]; rfl
            clear e62 e45 e33
            have E : Hid (CmAt r (acc ++ [45]) 4 (k + 1)) := Lib.hid (HR.out.go (p := [45]) (st' := 4) hlt hc (fun t => by simp [cmM, pend, h45]))
            have hal2 := E.out.len
            clear HR
            clear h45
            go_wp2_with (go_at_call 49; refine (bld_dash _ _ _ (by assumption) (by omega)).mono ?_; rintro e w' ⟨rfl, h1, h2, h3⟩)
            go_roundw
            case rel => exact ⟨k + 1, acc ++ [45], by go_num, by omega, by omega, CmS.of (st := 4) E.out (by decide), h1, hx.trans h2⟩
            case measure => simp [intOf]; omega
          · by_cases h33 : c = 33
            · have f62 : ((c.toNat : Int) == 62) = false := by rw [e62, h33]; rfl
              have f45 : ((c.toNat : Int) == 45) = false := by rw [e45, h33]; rfl
              have f33 : ((c.toNat : Int) == 33) = true := by rw [e33, h33]; rfl
              clear e62 e45 e33
              have E : Hid (CmAt r (acc) 5 (k + 1)) := Lib.hid (by have := HR.out.go (p := []) (st' := 5) hlt hc (fun t => by simp [cmM, pend, h33]); rwa [List.append_nil] at this)
              have hal2 := E.out.len
              clear HR
              clear h33
              go_wp2_with fail
              go_roundw
              case rel => exact ⟨k + 1, acc, by go_num, by omega, by omega, CmS.of (st := 5) E.out (by decide), hI, hx⟩
              case measure => simp [intOf]; omega
            · have f62 : ((c.toNat : Int) == 62) = false := by rw [e62]; simpa using h62
              have f45 : ((c.toNat : Int) == 45) = false := by rw [e45]; simpa using h45
              have f33 : ((c.toNat : Int) == 33) = false := by rw [e33]; simpa using h33
              clear e62 e45 e33
              have E : Hid (CmAt r (acc ++ [45, 45] ++ [c]) 2 (k + 1)) := Lib.hid (by rw [List.append_assoc]; exact HR.out.go (p := [45, 45, c]) (st' := 2) hlt hc (fun t => by simp [cmM, pend, h62, h45, h33]))
              have hal2 := E.out.len
              clear HR
              go_wp2_with (first | (go_at_call 50; refine (bld_writeString _ _ _ _ (by assumption) (by simp; omega)).mono ?_; rintro e w' ⟨rfl, g1, g2, g3⟩) | (go_at_call 49; refine (bld_writeByte _ _ c _ (by assumption) (by simp; omega)).mono ?_; rintro e w' ⟨rfl, h1, h2, h3⟩))
              go_roundw
              case rel => exact ⟨k + 1, acc ++ [45, 45] ++ [c], by go_num, by omega, by omega, CmS.of (st := 2) E.out (by decide), h1, (hx.trans g2).trans h2⟩
              case measure => simp [intOf]; omega
      · by_cases h62 : c = 62
        · have f62 : ((c.toNat : Int) == 62) = true := by rw [e62, h62]; rfl
          have f62n : ((c.toNat : Int) != 62) = false := by unfold bne; rw [f62]; rfl
          have f45 : ((c.toNat : Int) == 45) = false := by rw [e45, h62]; rfl
          have f33 : ((c.toNat : Int) == 33) = false := by rw [e33, h62]; rfl
          clear e62 e45 e33
          have E := Lib.hid (HR.out.stop hlt hc (fun t => by simp [cmM, h62]))
          clear HR
          go_wp2_with (go_at_call 48; refine (bld_string _ _ _ (by assumption)).mono ?_; rintro e w' ⟨rfl, h1, h2, h3⟩)
          go_ret2
          exact ⟨ret_inj (by unfold cmV; rw [E.out.1, E.out.2]; simp), hx.trans h2⟩
        · by_cases h45 : c = 45
          · have f62 : ((c.toNat : Int) == 62) = false := by rw [e62, h45]; rfl
            have f45 : ((c.toNat : Int) == 45) = true := by rw [e45, h45]; rfl
            have f33 : ((c.toNat : Int) == 33) = false := by rw [e33, h45]; rfl
            clear e62 e45 e33
            have E : Hid (CmAt r (acc ++ [45, 45, 33]) 3 (k + 1)) := Lib.hid (HR.out.go (p := [45, 45, 33]) (st' := 3) hlt hc (fun t => by simp [cmM, pend, h45]))
            have hal2 := E.out.len
            clear HR
            clear h45
            go_wp2_with (go_at_call 50; refine (bld_writeString _ _ _ _ (by assumption) (by simp; omega)).mono ?_; rintro e w' ⟨rfl, g1, g2, g3⟩)
            go_roundw
            case rel => exact ⟨k + 1, acc ++ [45, 45, 33], by go_num, by omega, by omega, CmS.of (st := 3) E.out (by decide), g1, hx.trans g2⟩
            case measure => simp [intOf]; omega
          · have f62 : ((c.toNat : Int) == 62) = false := by rw [e62]; simpa using h62
            have f45 : ((c.toNat : Int) == 45) = false := by rw [e45]; simpa using h45
            clear e62 e45 e33
            rcases Bool.eq_false_or_eq_true ((c.toNat : Int) == 33) with f33 | f33
            · have E : Hid (CmAt r (acc ++ [45, 45, 33] ++ [c]) 2 (k + 1)) := Lib.hid (by rw [List.append_assoc]; exact HR.out.go (p := [45, 45, 33, c]) (st' := 2) hlt hc (fun t => by simp [cmM, pend, h62, h45]))
              have hal2 := E.out.len
              clear HR
              go_wp2_with (first | (go_at_call 50; refine (bld_writeString _ _ _ _ (by assumption) (by simp; omega)).mono ?_; rintro e w' ⟨rfl, g1, g2, g3⟩) | (go_at_call 49; refine (bld_writeByte _ _ c _ (by assumption) (by simp; omega)).mono ?_; rintro e w' ⟨rfl, h1, h2, h3⟩))
              go_roundw
              case rel => exact ⟨k + 1, acc ++ [45, 45, 33] ++ [c], by go_num, by omega, by omega, CmS.of (st := 2) E.out (by decide), h1, (hx.trans g2).trans h2⟩
              case measure => simp [intOf]; omega
            · have E : Hid (CmAt r (acc ++ [45, 45, 33] ++ [c]) 2 (k + 1)) := Lib.hid (by rw [List.append_assoc]; exact HR.out.go (p := [45, 45, 33, c]) (st' := 2) hlt hc (fun t => by simp [cmM, pend, h62, h45]))
              have hal2 := E.out.len
              clear HR
              go_wp2_with (first | (go_at_call 50; refine (bld_writeString _ _ _ _ (by assumption) (by simp; omega)).mono ?_; rintro e w' ⟨rfl, g1, g2, g3⟩) | (go_at_call 49; refine (bld_writeByte _ _ c _ (by assumption) (by simp; omega)).mono ?_; rintro e w' ⟨rfl, h1, h2, h3⟩))
              go_roundw
              case rel => exact ⟨k + 1, acc ++ [45, 45, 33] ++ [c], by go_num, by omega, by omega, CmS.of (st := 2) E.out (by decide), h1, (hx.trans g2).trans h2⟩
              case measure => simp [intOf]; omega
    · obtain rfl : k = r.length := by omega
      have E : Hid ((cmM 0 r).1 = acc ∧ (cmM 0 r).2 = r.length) := Lib.hid (by
        rcases hS with ⟨_, H⟩ | ⟨_, H⟩ | ⟨_, H⟩ | ⟨_, H⟩ | ⟨_, H⟩ | ⟨_, H⟩ <;> exact H.out.done)
      clear hS
      go_wp2_with (go_at_call 48; refine (bld_string _ _ _ hI).mono ?_; rintro e w' ⟨rfl, h1, h2, h3⟩)
      go_ret2
      exact ⟨ret_inj (by unfold cmV; rw [E.out.1, E.out.2]; rfl), hx.trans h2⟩
end Go.Proofs.YtbolajljfkjfaaaDoor

