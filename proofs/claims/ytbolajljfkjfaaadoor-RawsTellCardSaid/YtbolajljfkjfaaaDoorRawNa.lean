/-
  What is proved: the reference's doctypes are the program's, without an end: a contract. Condition: texts of less than 30000 bytes.
-/
import Derived.Test.YtbolajljfkjfaaaDoorRawNp
namespace Go.Proofs.YtbolajljfkjfaaaDoor
open Go.RowKit

set_option maxRecDepth 100000 in
set_option maxHeartbeats 32000000 in
theorem docR_a (s : List UInt8) (k : Nat) (w : World) (hs : s.length < 30000) (h0 : -9223372036854775808 ≤ (k : Int)) (h1 : (k : Int) ≤ 9223372036854775807) (hk9 : k + 9 ≤ s.length) (hb : (behI docF s k).isSome = true) (hv : docI s k = some (lowL (cleanL (til blankB (skipB (upB [62] (s.drop (k + 9))).1))), (til blankB (skipB (upB [62] (s.drop (k + 9))).1)).isEmpty || !(skipB (past blankB (skipB (upB [62] (s.drop (k + 9))).1))).isEmpty || !(upB [62] (s.drop (k + 9))).2.2, 9 + (upB [62] (s.drop (k + 9))).2.1)) (hf : fdI [62] s k = -1) (hu : upB [62] (s.drop (k + 9)) = (seg s (k + 9) s.length, s.length - (k + 9), false)) :
    Calls Tryd.prog 15 #[.string ⟨⟨s⟩⟩, .int .i64 k] w fun e w' => e = .returned (docV s k) ∧ Ext w w' := by
  have cb := stands_is (f := [60, 33, 100, 111, 99, 116, 121, 112, 101]) (i := (k : Int)) (b := true) (by rw [show [60, 33, 100, 111, 99, 116, 121, 112, 101] = docF from rfl, hb]) (by omega) (by decide) h0 h1
  clear hb
  have cf := find_is hf (by omega) (by decide) (by decide) (show k ≤ s.length by omega)
  rw [hu] at hv
  dsimp only at hv
  have hel : s.length ≤ s.length := Nat.le_refl _
  have he1 : k + 9 ≤ s.length := hk9
  obtain ⟨x, hx⟩ : ∃ x, skipB (seg s (k + 9) s.length) = x := ⟨_, rfl⟩
  rw [hx] at hv
  have HV : Hid (docV s k = tokR (tokV 1 (lowL (cleanL (til blankB x))) [] ((til blankB x).isEmpty || !(skipB (past blankB x)).isEmpty || !false) k (s.length : Int)) (s.length : Int)) := Lib.hid (docV_some hv (by omega))
  have HX := Lib.hid hx
  clear hx hv hu hf
  go_enter Tryd.func15, Tryd.ntmps15
  go_wp2_with (first
    | (go_at_call 32; refine (cb _).mono ?_; rintro e w1 ⟨rfl, x1⟩)
    | (go_at_call 33; refine (cf _).mono ?_; rintro e w2 ⟨rfl, rfl⟩))
  clear cb cf
  go_loop [8] (fun v => ∃ a : Nat, v = .int .i64 a ∧ k + 9 ≤ a ∧ a ≤ s.length ∧ Hid (skipB (seg s a s.length) = x)) (fun v => s.length - (intOf v).toNat)
  case atStart => exact ⟨k + 9, by go_num, by omega, by omega, HX⟩
  case round =>
    clear HX
    obtain ⟨a, rfl, ha1, ha2, HA⟩ := hrel
    have hw : (∃ h : a < s.length, blankB (s[a]'(by omega)) = true) ∨ a = s.length ∨ (∃ h : a < s.length, blankB (s[a]'(by omega)) = false) := by
      by_cases hl0 : a < s.length
      · rcases Bool.eq_false_or_eq_true (blankB (s[a]'(by omega))) with hb0 | hb0
        · exact .inl ⟨hl0, hb0⟩
        · exact .inr <| .inr ⟨hl0, hb0⟩
      · exact .inr (.inl (by omega))
    rcases hw with ⟨hl, hbb⟩ | hw
    · have HN : Hid (skipB (seg s (a + 1) s.length) = x) := Lib.hid (by rw [← HA.out, skip_on hl hel hbb])
      obtain ⟨c, hc⟩ : ∃ c, s[a]'(by omega) = c := ⟨_, rfl⟩
      have hcl := c.toNat_lt
      have cbl := fun W => blankR_any c W
      rw [show blankB c = true by rw [← hc]; exact hbb] at cbl
      have l1 : (a : Int) < (s.length : Int) := by omega
      have l2 : (a : Int) < (s.length : Int) := by omega
      clear hbb HA
      go_wp2_with (go_at_call 39; refine (cbl _).mono ?_; rintro e w2 ⟨rfl, rfl⟩)
      go_round
      case rel => exact ⟨a + 1, by go_num, by omega, by omega, HN⟩
      case measure => simp [intOf]; omega
    · have HA2 : Hid (seg s a s.length = x) := Lib.hid (by
        rw [← HA.out]
        rcases hw with rfl | ⟨hl, hbb⟩
        · rw [seg_nil]; rfl
        · rw [skip_off hl hel hbb])
      clear HA
      rcases hw with hw | ⟨hl, hbb⟩
      · have l1 : ¬ (a : Int) < (s.length : Int) := by omega
        clear hw
        go_wp2_with fail
        go_loop [8] (fun v => ∃ b : Nat, v = .int .i64 b ∧ a ≤ b ∧ b ≤ s.length ∧ Hid (til blankB x = seg s a b ++ til blankB (seg s b s.length) ∧ past blankB x = past blankB (seg s b s.length))) (fun v => s.length - (intOf v).toNat)
        case atStart => exact ⟨a, rfl, by omega, by omega, Lib.hid (by rw [HA2.out, seg_nil]; exact ⟨rfl, rfl⟩)⟩
        case round =>
          obtain ⟨b, rfl, hb1, hb2, HB⟩ := hrel
          have hw2 : (∃ h : b < s.length, blankB (s[b]'(by omega)) = false) ∨ b = s.length ∨ (∃ h : b < s.length, blankB (s[b]'(by omega)) = true) := by
            by_cases hl0 : b < s.length
            · rcases Bool.eq_false_or_eq_true (blankB (s[b]'(by omega))) with hb0 | hb0
              · exact .inr <| .inr ⟨hl0, hb0⟩
              · exact .inl ⟨hl0, hb0⟩
            · exact .inr (.inl (by omega))
          rcases hw2 with ⟨hl2, hbb2⟩ | hw2
          · have HN : Hid (til blankB x = seg s a (b + 1) ++ til blankB (seg s (b + 1) s.length) ∧ past blankB x = past blankB (seg s (b + 1) s.length)) := Lib.hid (by
              obtain ⟨e1, e2⟩ := til_on hl2 hel hbb2
              rw [HB.out.1, HB.out.2, e1, e2, seg_snoc hb1 (by omega)]
              simp)
            obtain ⟨c, hc⟩ : ∃ c, s[b]'(by omega) = c := ⟨_, rfl⟩
            have hcl := c.toNat_lt
            have cbl := fun W => blankR_any c W
            rw [show blankB c = false by rw [← hc]; exact hbb2] at cbl
            have l1 : (b : Int) < (s.length : Int) := by omega
            have l2 : (b : Int) < (s.length : Int) := by omega
            clear hbb2 HB
            go_wp2_with (go_at_call 39; refine (cbl _).mono ?_; rintro e w2 ⟨rfl, rfl⟩)
            go_round
            case rel => exact ⟨b + 1, by go_num, by omega, by omega, HN⟩
            case measure => simp [intOf]; omega
          · have HB2 : Hid (til blankB x = seg s a b ∧ past blankB x = seg s b s.length) := Lib.hid (by
              rw [HB.out.1, HB.out.2]
              rcases hw2 with rfl | ⟨hl2, hbb2⟩
              · rw [seg_nil, til_nil, past_nil, List.append_nil]; exact ⟨rfl, rfl⟩
              · obtain ⟨e1, e2⟩ := til_off hl2 hel hbb2
                rw [e1, e2, List.append_nil]; exact ⟨rfl, rfl⟩)
            clear HB
            rcases hw2 with hw2 | ⟨hl2, hbb2⟩
            · have l1 : ¬ (b : Int) < (s.length : Int) := by omega
              clear hw2
              go_wp2_with fail
              go_loop [8] (fun v => ∃ g : Nat, v = .int .i64 g ∧ b ≤ g ∧ g ≤ s.length ∧ Hid (skipB (past blankB x) = skipB (seg s g s.length))) (fun v => s.length - (intOf v).toNat)
              case atStart => exact ⟨b, rfl, by omega, by omega, Lib.hid (by rw [HB2.out.2])⟩
              case round =>
                obtain ⟨g, rfl, hg1, hg2, HG⟩ := hrel
                have hw3 : (∃ h : g < s.length, blankB (s[g]'(by omega)) = true) ∨ g = s.length ∨ (∃ h : g < s.length, blankB (s[g]'(by omega)) = false) := by
                  by_cases hl0 : g < s.length
                  · rcases Bool.eq_false_or_eq_true (blankB (s[g]'(by omega))) with hb0 | hb0
                    · exact .inl ⟨hl0, hb0⟩
                    · exact .inr <| .inr ⟨hl0, hb0⟩
                  · exact .inr (.inl (by omega))
                rcases hw3 with ⟨hl3, hbb3⟩ | hw3
                · have HN : Hid (skipB (past blankB x) = skipB (seg s (g + 1) s.length)) := Lib.hid (by rw [HG.out, skip_on hl3 hel hbb3])
                  obtain ⟨c, hc⟩ : ∃ c, s[g]'(by omega) = c := ⟨_, rfl⟩
                  have hcl := c.toNat_lt
                  have cbl := fun W => blankR_any c W
                  rw [show blankB c = true by rw [← hc]; exact hbb3] at cbl
                  have l1 : (g : Int) < (s.length : Int) := by omega
                  have l2 : (g : Int) < (s.length : Int) := by omega
                  clear hbb3 HG
                  go_wp2_with (go_at_call 39; refine (cbl _).mono ?_; rintro e w2 ⟨rfl, rfl⟩)
                  go_round
                  case rel => exact ⟨g + 1, by go_num, by omega, by omega, HN⟩
                  case measure => simp [intOf]; omega
                · have HS : Hid (skipB (past blankB x) = seg s g s.length) := Lib.hid (by
                    rw [HG.out]
                    rcases hw3 with rfl | ⟨hl3, hbb3⟩
                    · rw [seg_nil]; rfl
                    · rw [skip_off hl3 hel hbb3])
                  clear HG
                  have cc := fun W => cleanR_any (seg s a b) W (by rw [seg_len (by omega)]; omega)
                  have hcll := cleanL_len (seg s a b)
                  have hsl := seg_len (s := s) (a := a) (b := b) (by omega)
                  have cl := fun W => lowR_any (cleanL (seg s a b)) W (by omega)
                  obtain ⟨b1, hb1e⟩ : ∃ q, (seg s a b == []) = q := ⟨_, rfl⟩
                  have HQ : Hid (docV s k = tokR (tokV 1 (lowL (cleanL (seg s a b))) [] (b1 || decide (g < s.length) || true) k (s.length : Int)) (s.length : Int)) := Lib.hid (by
                    rw [HV.out, HB2.out.1, emp_beq, hb1e, HS.out, emp_beq]
                    have e5 : (!(seg s g s.length == [])) = decide (g < s.length) := by
                      by_cases hg : g < s.length
                      · rw [seg_cons hg hel]; simp [hg]
                      · have : g = s.length := by omega
                        subst this; rw [seg_nil]; simp
                    rw [e5]
                    rfl)
                  clear HV HB2 HS hsl hcll
                  rcases hw3 with hw3 | ⟨hl3, hbb3⟩
                  · have lx : ¬ g < s.length := by omega
                    have l1 : ¬ (g : Int) < (s.length : Int) := by omega
                    clear hw3
                    have hun : (s.drop a).take (b - a) = seg s a b := rfl
                    obtain ⟨nm, hnm⟩ : ∃ nm, seg s a b = nm := ⟨_, rfl⟩
                    rw [hnm] at cc cl HQ hb1e hun
                    clear hnm
                    cases b1
                    all_goals
                      go_wp2_with (first
                        | (go_at_call 39; refine (cbl _).mono ?_; rintro e w2 ⟨rfl, rfl⟩)
                        | (go_at_call 23; refine (cc _).mono ?_; rintro e w3 ⟨rfl, rfl⟩)
                        | (go_at_call 40; refine (cl _).mono ?_; rintro e w4 ⟨rfl, x4⟩; obtain ⟨hB, z4, hz4⟩ := tok_block (x1.trans x4); obtain ⟨⟨c0, c1, c2, c3, c4, c5, c6, c7, c8⟩, f0, f1, f2, f3, f4, f5, f6, f7, f8⟩ := tok_cells hB))
                      refine bodyPost_ret (v := docV s k) (by rw [HQ.out]; simp [results, Tryd.results15, go_sem, tokV, tokR, c0, c1, c2, c3, c4, c5, c6, c7, c8, lx]) rfl ⟨rfl, ?_⟩
                      go_grown
                  · have lx : g < s.length := hl3
                    obtain ⟨c, hc⟩ : ∃ c, s[g]'(by omega) = c := ⟨_, rfl⟩
                    have hcl := c.toNat_lt
                    have cbl := fun W => blankR_any c W
                    rw [show blankB c = false by rw [← hc]; exact hbb3] at cbl
                    have l1 : (g : Int) < (s.length : Int) := by omega
                    have l2 : (g : Int) < (s.length : Int) := by omega
                    clear hbb3
                    have hun : (s.drop a).take (b - a) = seg s a b := rfl
                    obtain ⟨nm, hnm⟩ : ∃ nm, seg s a b = nm := ⟨_, rfl⟩
                    rw [hnm] at cc cl HQ hb1e hun
                    clear hnm
                    go_wp2_with (go_at_call 39; refine (cbl _).mono ?_; rintro e w2 ⟨rfl, rfl⟩)
                    clear cbl hc l2 hcl
                    have lz := decide_eq_true l1
                    have ly := decide_eq_true lx
                    clear l1 lx hl3
                    cases b1
                    all_goals
                      go_wp2_with (first
                        | (go_at_call 39; refine (cbl _).mono ?_; rintro e w2 ⟨rfl, rfl⟩)
                        | (go_at_call 23; refine (cc _).mono ?_; rintro e w3 ⟨rfl, rfl⟩)
                        | (go_at_call 40; refine (cl _).mono ?_; rintro e w4 ⟨rfl, x4⟩; obtain ⟨hB, z4, hz4⟩ := tok_block (x1.trans x4); obtain ⟨⟨c0, c1, c2, c3, c4, c5, c6, c7, c8⟩, f0, f1, f2, f3, f4, f5, f6, f7, f8⟩ := tok_cells hB))
                      refine bodyPost_ret (v := docV s k) (by rw [HQ.out]; simp [results, Tryd.results15, go_sem, tokV, tokR, c0, c1, c2, c3, c4, c5, c6, c7, c8, ly, lz]) rfl ⟨rfl, ?_⟩
                      go_grown
            · obtain ⟨c, hc⟩ : ∃ c, s[b]'(by omega) = c := ⟨_, rfl⟩
              have hcl := c.toNat_lt
              have cbl := fun W => blankR_any c W
              rw [show blankB c = true by rw [← hc]; exact hbb2] at cbl
              have l1 : (b : Int) < (s.length : Int) := by omega
              have l2 : (b : Int) < (s.length : Int) := by omega
              clear hbb2
              go_wp2_with (go_at_call 39; refine (cbl _).mono ?_; rintro e w2 ⟨rfl, rfl⟩)
              clear cbl hc l1 l2 hcl hl2
              go_loop [8] (fun v => ∃ g : Nat, v = .int .i64 g ∧ b ≤ g ∧ g ≤ s.length ∧ Hid (skipB (past blankB x) = skipB (seg s g s.length))) (fun v => s.length - (intOf v).toNat)
              case atStart => exact ⟨b, rfl, by omega, by omega, Lib.hid (by rw [HB2.out.2])⟩
              case round =>
                obtain ⟨g, rfl, hg1, hg2, HG⟩ := hrel
                have hw3 : (∃ h : g < s.length, blankB (s[g]'(by omega)) = true) ∨ g = s.length ∨ (∃ h : g < s.length, blankB (s[g]'(by omega)) = false) := by
                  by_cases hl0 : g < s.length
                  · rcases Bool.eq_false_or_eq_true (blankB (s[g]'(by omega))) with hb0 | hb0
                    · exact .inl ⟨hl0, hb0⟩
                    · exact .inr <| .inr ⟨hl0, hb0⟩
                  · exact .inr (.inl (by omega))
                rcases hw3 with ⟨hl3, hbb3⟩ | hw3
                · have HN : Hid (skipB (past blankB x) = skipB (seg s (g + 1) s.length)) := Lib.hid (by rw [HG.out, skip_on hl3 hel hbb3])
                  obtain ⟨c, hc⟩ : ∃ c, s[g]'(by omega) = c := ⟨_, rfl⟩
                  have hcl := c.toNat_lt
                  have cbl := fun W => blankR_any c W
                  rw [show blankB c = true by rw [← hc]; exact hbb3] at cbl
                  have l1 : (g : Int) < (s.length : Int) := by omega
                  have l2 : (g : Int) < (s.length : Int) := by omega
                  clear hbb3 HG
                  go_wp2_with (go_at_call 39; refine (cbl _).mono ?_; rintro e w2 ⟨rfl, rfl⟩)
                  go_round
                  case rel => exact ⟨g + 1, by go_num, by omega, by omega, HN⟩
                  case measure => simp [intOf]; omega
                · have HS : Hid (skipB (past blankB x) = seg s g s.length) := Lib.hid (by
                    rw [HG.out]
                    rcases hw3 with rfl | ⟨hl3, hbb3⟩
                    · rw [seg_nil]; rfl
                    · rw [skip_off hl3 hel hbb3])
                  clear HG
                  have cc := fun W => cleanR_any (seg s a b) W (by rw [seg_len (by omega)]; omega)
                  have hcll := cleanL_len (seg s a b)
                  have hsl := seg_len (s := s) (a := a) (b := b) (by omega)
                  have cl := fun W => lowR_any (cleanL (seg s a b)) W (by omega)
                  obtain ⟨b1, hb1e⟩ : ∃ q, (seg s a b == []) = q := ⟨_, rfl⟩
                  have HQ : Hid (docV s k = tokR (tokV 1 (lowL (cleanL (seg s a b))) [] (b1 || decide (g < s.length) || true) k (s.length : Int)) (s.length : Int)) := Lib.hid (by
                    rw [HV.out, HB2.out.1, emp_beq, hb1e, HS.out, emp_beq]
                    have e5 : (!(seg s g s.length == [])) = decide (g < s.length) := by
                      by_cases hg : g < s.length
                      · rw [seg_cons hg hel]; simp [hg]
                      · have : g = s.length := by omega
                        subst this; rw [seg_nil]; simp
                    rw [e5]
                    rfl)
                  clear HV HB2 HS hsl hcll
                  rcases hw3 with hw3 | ⟨hl3, hbb3⟩
                  · have lx : ¬ g < s.length := by omega
                    have l1 : ¬ (g : Int) < (s.length : Int) := by omega
                    clear hw3
                    have hun : (s.drop a).take (b - a) = seg s a b := rfl
                    obtain ⟨nm, hnm⟩ : ∃ nm, seg s a b = nm := ⟨_, rfl⟩
                    rw [hnm] at cc cl HQ hb1e hun
                    clear hnm
                    cases b1
                    all_goals
                      go_wp2_with (first
                        | (go_at_call 39; refine (cbl _).mono ?_; rintro e w2 ⟨rfl, rfl⟩)
                        | (go_at_call 23; refine (cc _).mono ?_; rintro e w3 ⟨rfl, rfl⟩)
                        | (go_at_call 40; refine (cl _).mono ?_; rintro e w4 ⟨rfl, x4⟩; obtain ⟨hB, z4, hz4⟩ := tok_block (x1.trans x4); obtain ⟨⟨c0, c1, c2, c3, c4, c5, c6, c7, c8⟩, f0, f1, f2, f3, f4, f5, f6, f7, f8⟩ := tok_cells hB))
                      refine bodyPost_ret (v := docV s k) (by rw [HQ.out]; simp [results, Tryd.results15, go_sem, tokV, tokR, c0, c1, c2, c3, c4, c5, c6, c7, c8, lx]) rfl ⟨rfl, ?_⟩
                      go_grown
                  · have lx : g < s.length := hl3
                    obtain ⟨c, hc⟩ : ∃ c, s[g]'(by omega) = c := ⟨_, rfl⟩
                    have hcl := c.toNat_lt
                    have cbl := fun W => blankR_any c W
                    rw [show blankB c = false by rw [← hc]; exact hbb3] at cbl
                    have l1 : (g : Int) < (s.length : Int) := by omega
                    have l2 : (g : Int) < (s.length : Int) := by omega
                    clear hbb3
                    have hun : (s.drop a).take (b - a) = seg s a b := rfl
                    obtain ⟨nm, hnm⟩ : ∃ nm, seg s a b = nm := ⟨_, rfl⟩
                    rw [hnm] at cc cl HQ hb1e hun
                    clear hnm
                    go_wp2_with (go_at_call 39; refine (cbl _).mono ?_; rintro e w2 ⟨rfl, rfl⟩)
                    clear cbl hc l2 hcl
                    have lz := decide_eq_true l1
                    have ly := decide_eq_true lx
                    clear l1 lx hl3
                    cases b1
                    all_goals
                      go_wp2_with (first
                        | (go_at_call 39; refine (cbl _).mono ?_; rintro e w2 ⟨rfl, rfl⟩)
                        | (go_at_call 23; refine (cc _).mono ?_; rintro e w3 ⟨rfl, rfl⟩)
                        | (go_at_call 40; refine (cl _).mono ?_; rintro e w4 ⟨rfl, x4⟩; obtain ⟨hB, z4, hz4⟩ := tok_block (x1.trans x4); obtain ⟨⟨c0, c1, c2, c3, c4, c5, c6, c7, c8⟩, f0, f1, f2, f3, f4, f5, f6, f7, f8⟩ := tok_cells hB))
                      refine bodyPost_ret (v := docV s k) (by rw [HQ.out]; simp [results, Tryd.results15, go_sem, tokV, tokR, c0, c1, c2, c3, c4, c5, c6, c7, c8, ly, lz]) rfl ⟨rfl, ?_⟩
                      go_grown
      · obtain ⟨c, hc⟩ : ∃ c, s[a]'(by omega) = c := ⟨_, rfl⟩
        have hcl := c.toNat_lt
        have cbl := fun W => blankR_any c W
        rw [show blankB c = false by rw [← hc]; exact hbb] at cbl
        have l1 : (a : Int) < (s.length : Int) := by omega
        have l2 : (a : Int) < (s.length : Int) := by omega
        clear hbb
        go_wp2_with (go_at_call 39; refine (cbl _).mono ?_; rintro e w2 ⟨rfl, rfl⟩)
        clear cbl hc l1 l2 hcl hl
        go_loop [8] (fun v => ∃ b : Nat, v = .int .i64 b ∧ a ≤ b ∧ b ≤ s.length ∧ Hid (til blankB x = seg s a b ++ til blankB (seg s b s.length) ∧ past blankB x = past blankB (seg s b s.length))) (fun v => s.length - (intOf v).toNat)
        case atStart => exact ⟨a, rfl, by omega, by omega, Lib.hid (by rw [HA2.out, seg_nil]; exact ⟨rfl, rfl⟩)⟩
        case round =>
          obtain ⟨b, rfl, hb1, hb2, HB⟩ := hrel
          have hw2 : (∃ h : b < s.length, blankB (s[b]'(by omega)) = false) ∨ b = s.length ∨ (∃ h : b < s.length, blankB (s[b]'(by omega)) = true) := by
            by_cases hl0 : b < s.length
            · rcases Bool.eq_false_or_eq_true (blankB (s[b]'(by omega))) with hb0 | hb0
              · exact .inr <| .inr ⟨hl0, hb0⟩
              · exact .inl ⟨hl0, hb0⟩
            · exact .inr (.inl (by omega))
          rcases hw2 with ⟨hl2, hbb2⟩ | hw2
          · have HN : Hid (til blankB x = seg s a (b + 1) ++ til blankB (seg s (b + 1) s.length) ∧ past blankB x = past blankB (seg s (b + 1) s.length)) := Lib.hid (by
              obtain ⟨e1, e2⟩ := til_on hl2 hel hbb2
              rw [HB.out.1, HB.out.2, e1, e2, seg_snoc hb1 (by omega)]
              simp)
            obtain ⟨c, hc⟩ : ∃ c, s[b]'(by omega) = c := ⟨_, rfl⟩
            have hcl := c.toNat_lt
            have cbl := fun W => blankR_any c W
            rw [show blankB c = false by rw [← hc]; exact hbb2] at cbl
            have l1 : (b : Int) < (s.length : Int) := by omega
            have l2 : (b : Int) < (s.length : Int) := by omega
            clear hbb2 HB
            go_wp2_with (go_at_call 39; refine (cbl _).mono ?_; rintro e w2 ⟨rfl, rfl⟩)
            go_round
            case rel => exact ⟨b + 1, by go_num, by omega, by omega, HN⟩
            case measure => simp [intOf]; omega
          · have HB2 : Hid (til blankB x = seg s a b ∧ past blankB x = seg s b s.length) := Lib.hid (by
              rw [HB.out.1, HB.out.2]
              rcases hw2 with rfl | ⟨hl2, hbb2⟩
              · rw [seg_nil, til_nil, past_nil, List.append_nil]; exact ⟨rfl, rfl⟩
              · obtain ⟨e1, e2⟩ := til_off hl2 hel hbb2
                rw [e1, e2, List.append_nil]; exact ⟨rfl, rfl⟩)
            clear HB
            rcases hw2 with hw2 | ⟨hl2, hbb2⟩
            · have l1 : ¬ (b : Int) < (s.length : Int) := by omega
              clear hw2
              go_wp2_with fail
              go_loop [8] (fun v => ∃ g : Nat, v = .int .i64 g ∧ b ≤ g ∧ g ≤ s.length ∧ Hid (skipB (past blankB x) = skipB (seg s g s.length))) (fun v => s.length - (intOf v).toNat)
              case atStart => exact ⟨b, rfl, by omega, by omega, Lib.hid (by rw [HB2.out.2])⟩
              case round =>
                obtain ⟨g, rfl, hg1, hg2, HG⟩ := hrel
                have hw3 : (∃ h : g < s.length, blankB (s[g]'(by omega)) = true) ∨ g = s.length ∨ (∃ h : g < s.length, blankB (s[g]'(by omega)) = false) := by
                  by_cases hl0 : g < s.length
                  · rcases Bool.eq_false_or_eq_true (blankB (s[g]'(by omega))) with hb0 | hb0
                    · exact .inl ⟨hl0, hb0⟩
                    · exact .inr <| .inr ⟨hl0, hb0⟩
                  · exact .inr (.inl (by omega))
                rcases hw3 with ⟨hl3, hbb3⟩ | hw3
                · have HN : Hid (skipB (past blankB x) = skipB (seg s (g + 1) s.length)) := Lib.hid (by rw [HG.out, skip_on hl3 hel hbb3])
                  obtain ⟨c, hc⟩ : ∃ c, s[g]'(by omega) = c := ⟨_, rfl⟩
                  have hcl := c.toNat_lt
                  have cbl := fun W => blankR_any c W
                  rw [show blankB c = true by rw [← hc]; exact hbb3] at cbl
                  have l1 : (g : Int) < (s.length : Int) := by omega
                  have l2 : (g : Int) < (s.length : Int) := by omega
                  clear hbb3 HG
                  go_wp2_with (go_at_call 39; refine (cbl _).mono ?_; rintro e w2 ⟨rfl, rfl⟩)
                  go_round
                  case rel => exact ⟨g + 1, by go_num, by omega, by omega, HN⟩
                  case measure => simp [intOf]; omega
                · have HS : Hid (skipB (past blankB x) = seg s g s.length) := Lib.hid (by
                    rw [HG.out]
                    rcases hw3 with rfl | ⟨hl3, hbb3⟩
                    · rw [seg_nil]; rfl
                    · rw [skip_off hl3 hel hbb3])
                  clear HG
                  have cc := fun W => cleanR_any (seg s a b) W (by rw [seg_len (by omega)]; omega)
                  have hcll := cleanL_len (seg s a b)
                  have hsl := seg_len (s := s) (a := a) (b := b) (by omega)
                  have cl := fun W => lowR_any (cleanL (seg s a b)) W (by omega)
                  obtain ⟨b1, hb1e⟩ : ∃ q, (seg s a b == []) = q := ⟨_, rfl⟩
                  have HQ : Hid (docV s k = tokR (tokV 1 (lowL (cleanL (seg s a b))) [] (b1 || decide (g < s.length) || true) k (s.length : Int)) (s.length : Int)) := Lib.hid (by
                    rw [HV.out, HB2.out.1, emp_beq, hb1e, HS.out, emp_beq]
                    have e5 : (!(seg s g s.length == [])) = decide (g < s.length) := by
                      by_cases hg : g < s.length
                      · rw [seg_cons hg hel]; simp [hg]
                      · have : g = s.length := by omega
                        subst this; rw [seg_nil]; simp
                    rw [e5]
                    rfl)
                  clear HV HB2 HS hsl hcll
                  rcases hw3 with hw3 | ⟨hl3, hbb3⟩
                  · have lx : ¬ g < s.length := by omega
                    have l1 : ¬ (g : Int) < (s.length : Int) := by omega
                    clear hw3
                    have hun : (s.drop a).take (b - a) = seg s a b := rfl
                    obtain ⟨nm, hnm⟩ : ∃ nm, seg s a b = nm := ⟨_, rfl⟩
                    rw [hnm] at cc cl HQ hb1e hun
                    clear hnm
                    cases b1
                    all_goals
                      go_wp2_with (first
                        | (go_at_call 39; refine (cbl _).mono ?_; rintro e w2 ⟨rfl, rfl⟩)
                        | (go_at_call 23; refine (cc _).mono ?_; rintro e w3 ⟨rfl, rfl⟩)
                        | (go_at_call 40; refine (cl _).mono ?_; rintro e w4 ⟨rfl, x4⟩; obtain ⟨hB, z4, hz4⟩ := tok_block (x1.trans x4); obtain ⟨⟨c0, c1, c2, c3, c4, c5, c6, c7, c8⟩, f0, f1, f2, f3, f4, f5, f6, f7, f8⟩ := tok_cells hB))
                      refine bodyPost_ret (v := docV s k) (by rw [HQ.out]; simp [results, Tryd.results15, go_sem, tokV, tokR, c0, c1, c2, c3, c4, c5, c6, c7, c8, lx]) rfl ⟨rfl, ?_⟩
                      go_grown
                  · have lx : g < s.length := hl3
                    obtain ⟨c, hc⟩ : ∃ c, s[g]'(by omega) = c := ⟨_, rfl⟩
                    have hcl := c.toNat_lt
                    have cbl := fun W => blankR_any c W
                    rw [show blankB c = false by rw [← hc]; exact hbb3] at cbl
                    have l1 : (g : Int) < (s.length : Int) := by omega
                    have l2 : (g : Int) < (s.length : Int) := by omega
                    clear hbb3
                    have hun : (s.drop a).take (b - a) = seg s a b := rfl
                    obtain ⟨nm, hnm⟩ : ∃ nm, seg s a b = nm := ⟨_, rfl⟩
                    rw [hnm] at cc cl HQ hb1e hun
                    clear hnm
                    go_wp2_with (go_at_call 39; refine (cbl _).mono ?_; rintro e w2 ⟨rfl, rfl⟩)
                    clear cbl hc l2 hcl
                    have lz := decide_eq_true l1
                    have ly := decide_eq_true lx
                    clear l1 lx hl3
                    cases b1
                    all_goals
                      go_wp2_with (first
                        | (go_at_call 39; refine (cbl _).mono ?_; rintro e w2 ⟨rfl, rfl⟩)
                        | (go_at_call 23; refine (cc _).mono ?_; rintro e w3 ⟨rfl, rfl⟩)
                        | (go_at_call 40; refine (cl _).mono ?_; rintro e w4 ⟨rfl, x4⟩; obtain ⟨hB, z4, hz4⟩ := tok_block (x1.trans x4); obtain ⟨⟨c0, c1, c2, c3, c4, c5, c6, c7, c8⟩, f0, f1, f2, f3, f4, f5, f6, f7, f8⟩ := tok_cells hB))
                      refine bodyPost_ret (v := docV s k) (by rw [HQ.out]; simp [results, Tryd.results15, go_sem, tokV, tokR, c0, c1, c2, c3, c4, c5, c6, c7, c8, ly, lz]) rfl ⟨rfl, ?_⟩
                      go_grown
            · obtain ⟨c, hc⟩ : ∃ c, s[b]'(by omega) = c := ⟨_, rfl⟩
              have hcl := c.toNat_lt
              have cbl := fun W => blankR_any c W
              rw [show blankB c = true by rw [← hc]; exact hbb2] at cbl
              have l1 : (b : Int) < (s.length : Int) := by omega
              have l2 : (b : Int) < (s.length : Int) := by omega
              clear hbb2
              go_wp2_with (go_at_call 39; refine (cbl _).mono ?_; rintro e w2 ⟨rfl, rfl⟩)
              clear cbl hc l1 l2 hcl hl2
              go_loop [8] (fun v => ∃ g : Nat, v = .int .i64 g ∧ b ≤ g ∧ g ≤ s.length ∧ Hid (skipB (past blankB x) = skipB (seg s g s.length))) (fun v => s.length - (intOf v).toNat)
              case atStart => exact ⟨b, rfl, by omega, by omega, Lib.hid (by rw [HB2.out.2])⟩
              case round =>
                obtain ⟨g, rfl, hg1, hg2, HG⟩ := hrel
                have hw3 : (∃ h : g < s.length, blankB (s[g]'(by omega)) = true) ∨ g = s.length ∨ (∃ h : g < s.length, blankB (s[g]'(by omega)) = false) := by
                  by_cases hl0 : g < s.length
                  · rcases Bool.eq_false_or_eq_true (blankB (s[g]'(by omega))) with hb0 | hb0
                    · exact .inl ⟨hl0, hb0⟩
                    · exact .inr <| .inr ⟨hl0, hb0⟩
                  · exact .inr (.inl (by omega))
                rcases hw3 with ⟨hl3, hbb3⟩ | hw3
                · have HN : Hid (skipB (past blankB x) = skipB (seg s (g + 1) s.length)) := Lib.hid (by rw [HG.out, skip_on hl3 hel hbb3])
                  obtain ⟨c, hc⟩ : ∃ c, s[g]'(by omega) = c := ⟨_, rfl⟩
                  have hcl := c.toNat_lt
                  have cbl := fun W => blankR_any c W
                  rw [show blankB c = true by rw [← hc]; exact hbb3] at cbl
                  have l1 : (g : Int) < (s.length : Int) := by omega
                  have l2 : (g : Int) < (s.length : Int) := by omega
                  clear hbb3 HG
                  go_wp2_with (go_at_call 39; refine (cbl _).mono ?_; rintro e w2 ⟨rfl, rfl⟩)
                  go_round
                  case rel => exact ⟨g + 1, by go_num, by omega, by omega, HN⟩
                  case measure => simp [intOf]; omega
                · have HS : Hid (skipB (past blankB x) = seg s g s.length) := Lib.hid (by
                    rw [HG.out]
                    rcases hw3 with rfl | ⟨hl3, hbb3⟩
                    · rw [seg_nil]; rfl
                    · rw [skip_off hl3 hel hbb3])
                  clear HG
                  have cc := fun W => cleanR_any (seg s a b) W (by rw [seg_len (by omega)]; omega)
                  have hcll := cleanL_len (seg s a b)
                  have hsl := seg_len (s := s) (a := a) (b := b) (by omega)
                  have cl := fun W => lowR_any (cleanL (seg s a b)) W (by omega)
                  obtain ⟨b1, hb1e⟩ : ∃ q, (seg s a b == []) = q := ⟨_, rfl⟩
                  have HQ : Hid (docV s k = tokR (tokV 1 (lowL (cleanL (seg s a b))) [] (b1 || decide (g < s.length) || true) k (s.length : Int)) (s.length : Int)) := Lib.hid (by
                    rw [HV.out, HB2.out.1, emp_beq, hb1e, HS.out, emp_beq]
                    have e5 : (!(seg s g s.length == [])) = decide (g < s.length) := by
                      by_cases hg : g < s.length
                      · rw [seg_cons hg hel]; simp [hg]
                      · have : g = s.length := by omega
                        subst this; rw [seg_nil]; simp
                    rw [e5]
                    rfl)
                  clear HV HB2 HS hsl hcll
                  rcases hw3 with hw3 | ⟨hl3, hbb3⟩
                  · have lx : ¬ g < s.length := by omega
                    have l1 : ¬ (g : Int) < (s.length : Int) := by omega
                    clear hw3
                    have hun : (s.drop a).take (b - a) = seg s a b := rfl
                    obtain ⟨nm, hnm⟩ : ∃ nm, seg s a b = nm := ⟨_, rfl⟩
                    rw [hnm] at cc cl HQ hb1e hun
                    clear hnm
                    cases b1
                    all_goals
                      go_wp2_with (first
                        | (go_at_call 39; refine (cbl _).mono ?_; rintro e w2 ⟨rfl, rfl⟩)
                        | (go_at_call 23; refine (cc _).mono ?_; rintro e w3 ⟨rfl, rfl⟩)
                        | (go_at_call 40; refine (cl _).mono ?_; rintro e w4 ⟨rfl, x4⟩; obtain ⟨hB, z4, hz4⟩ := tok_block (x1.trans x4); obtain ⟨⟨c0, c1, c2, c3, c4, c5, c6, c7, c8⟩, f0, f1, f2, f3, f4, f5, f6, f7, f8⟩ := tok_cells hB))
                      refine bodyPost_ret (v := docV s k) (by rw [HQ.out]; simp [results, Tryd.results15, go_sem, tokV, tokR, c0, c1, c2, c3, c4, c5, c6, c7, c8, lx]) rfl ⟨rfl, ?_⟩
                      go_grown
                  · have lx : g < s.length := hl3
                    obtain ⟨c, hc⟩ : ∃ c, s[g]'(by omega) = c := ⟨_, rfl⟩
                    have hcl := c.toNat_lt
                    have cbl := fun W => blankR_any c W
                    rw [show blankB c = false by rw [← hc]; exact hbb3] at cbl
                    have l1 : (g : Int) < (s.length : Int) := by omega
                    have l2 : (g : Int) < (s.length : Int) := by omega
                    clear hbb3
                    have hun : (s.drop a).take (b - a) = seg s a b := rfl
                    obtain ⟨nm, hnm⟩ : ∃ nm, seg s a b = nm := ⟨_, rfl⟩
                    rw [hnm] at cc cl HQ hb1e hun
                    clear hnm
                    go_wp2_with (go_at_call 39; refine (cbl _).mono ?_; rintro e w2 ⟨rfl, rfl⟩)
                    clear cbl hc l2 hcl
                    have lz := decide_eq_true l1
                    have ly := decide_eq_true lx
                    clear l1 lx hl3
                    cases b1
                    all_goals
                      go_wp2_with (first
                        | (go_at_call 39; refine (cbl _).mono ?_; rintro e w2 ⟨rfl, rfl⟩)
                        | (go_at_call 23; refine (cc _).mono ?_; rintro e w3 ⟨rfl, rfl⟩)
                        | (go_at_call 40; refine (cl _).mono ?_; rintro e w4 ⟨rfl, x4⟩; obtain ⟨hB, z4, hz4⟩ := tok_block (x1.trans x4); obtain ⟨⟨c0, c1, c2, c3, c4, c5, c6, c7, c8⟩, f0, f1, f2, f3, f4, f5, f6, f7, f8⟩ := tok_cells hB))
                      refine bodyPost_ret (v := docV s k) (by rw [HQ.out]; simp [results, Tryd.results15, go_sem, tokV, tokR, c0, c1, c2, c3, c4, c5, c6, c7, c8, ly, lz]) rfl ⟨rfl, ?_⟩
                      go_grown
end Go.Proofs.YtbolajljfkjfaaaDoor
