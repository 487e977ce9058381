/-
  What is proved: the reference of layer 9: the name at a place, and so its Find: a contract. Condition: the text's size.
-/
import Derived.Test.YtbolajljfkjfaaaDoorRefI
import Derived.Test.YtbolajljfkjfaaaDoorRefK
namespace Go.Proofs.YtbolajljfkjfaaaDoor
open Go.RowKit

/-- What the loop over the names holds: which place is the best one's end; 0: none. -/
def nextOf (k m : Nat) : Nat := if m = 0 then 0 else k + 1 + m
def NameRel (s : List UInt8) (k j : Nat) (T : List UInt8) (N : Nat) : Prop :=
  T = ((allN.take j).foldl (bestStep (s.drop (k + 1))) ([], 0)).1 ∧ N = nextOf k ((allN.take j).foldl (bestStep (s.drop (k + 1))) ([], 0)).2 ∧ ((allN.take j).foldl (bestStep (s.drop (k + 1))) ([], 0)).2 + k + 1 ≤ s.length
theorem allN_len : allN.length = 52 := by decide +kernel
theorem NameRel.step {s : List UInt8} {k j : Nat} {T : List UInt8} {N : Nat} {x : Nm} (h : NameRel s k j T N) (hx : allN[j]? = some x) (hk : k < s.length) :
    (N < k + 1 + ev (s.drop (k + 1)) x → 0 < ev (s.drop (k + 1)) x → NameRel s k (j + 1) x.text (k + 1 + ev (s.drop (k + 1)) x)) ∧
    (k + 1 + ev (s.drop (k + 1)) x ≤ N → NameRel s k (j + 1) T N) ∧ (ev (s.drop (k + 1)) x = 0 → NameRel s k (j + 1) T N) := by
  obtain ⟨h1, h2, h3⟩ := h
  have ht : allN.take (j + 1) = allN.take j ++ [x] := by
    rw [List.take_add_one, hx]; rfl
  have hev := ev_le (s.drop (k + 1)) x
  simp only [List.length_drop] at hev
  unfold NameRel
  rw [ht, List.foldl_append, List.foldl_cons, List.foldl_nil]
  generalize (allN.take j).foldl (bestStep (s.drop (k + 1))) ([], 0) = p at h1 h2 h3
  obtain ⟨t, m⟩ := p
  simp only at h1 h2 h3
  subst h1 h2
  unfold bestStep nextOf
  simp only
  refine ⟨fun a b => ?_, fun a => ?_, fun a => ?_⟩
  · by_cases hm : m = 0
    · subst hm
      rw [if_pos b]
      simp only
      rw [if_neg (by omega)]
      exact ⟨by trivial, by trivial, by omega⟩
    · rw [if_neg hm] at a
      rw [if_pos (by omega)]
      simp only
      rw [if_neg (by omega)]
      exact ⟨by trivial, by trivial, by omega⟩
  · by_cases hm : m = 0
    · rw [if_pos hm] at a; omega
    · rw [if_neg hm] at a
      rw [if_neg (by omega)]
      exact ⟨rfl, rfl, h3⟩
  · rw [if_neg (by omega)]
    exact ⟨rfl, rfl, h3⟩
theorem NameRel.start {s : List UInt8} {k : Nat} (hk : k < s.length) : NameRel s k 0 [] 0 := by
  refine ⟨rfl, rfl, ?_⟩
  show 0 + k + 1 ≤ s.length
  omega
theorem NameRel.fin {s : List UInt8} {k : Nat} {T : List UInt8} {N : Nat} (h : NameRel s k 52 T N) : T = (bestF (s.drop (k + 1))).1 ∧ N = nextOf k (bestF (s.drop (k + 1))).2 := by
  have e : allN.take 52 = allN := List.take_of_length_le (by rw [allN_len]; omega)
  unfold NameRel at h
  rw [e] at h
  exact ⟨h.1, h.2.1⟩
theorem NameRel.le {s : List UInt8} {k j : Nat} {T : List UInt8} {N : Nat} (h : NameRel s k j T N) : N ≤ s.length := by
  obtain ⟨_, h2, h3⟩ := h
  rw [h2]
  unfold nextOf
  split <;> omega
theorem ev_off {u : List UInt8} {x : Nm} (h : x.name.isPrefixOf u = false) : ev u x = 0 := by unfold ev; rw [h]; rfl
theorem ev_semi {u : List UInt8} {x : Nm} (h : x.name.isPrefixOf u = true) (h2 : ([59] : List UInt8).isPrefixOf (u.drop x.name.length) = true) : ev u x = x.name.length + 1 := by
  rw [prefix_drop_head, decide_eq_true_eq] at h2
  unfold ev; rw [h, if_pos rfl, if_pos h2]
theorem ev_bare {u : List UInt8} {x : Nm} (h : x.name.isPrefixOf u = true) (h2 : ([59] : List UInt8).isPrefixOf (u.drop x.name.length) = false) : ev u x = if x.loose then x.name.length else 0 := by
  rw [prefix_drop_head, decide_eq_false_iff_not] at h2
  unfold ev; rw [h, if_pos rfl, if_neg h2]
theorem names_short' : allN.all (fun x => decide (x.name.length ≤ 10) && decide (0 < x.name.length)) = true := by decide +kernel
theorem name_short {j : Nat} {x : Nm} (h : allN[j]? = some x) : x.name.length ≤ 10 ∧ 0 < x.name.length := by
  have := List.all_eq_true.1 names_short' x (List.mem_of_getElem? h)
  simpa using this
set_option maxRecDepth 100000 in
set_option maxHeartbeats 4000000 in
theorem refFind_word (s : List UInt8) (k : Nat) (attr : Bool) (w : World) (hl : s.length < 100000) (hlt : k < s.length) (h1 : s[k] = 38) (h2 : ([35] : List UInt8).isPrefixOf (s.drop (k + 1)) = false) :
    Calls Tryd.prog 46 #[.string ⟨⟨s⟩⟩, .int .i64 k, .bool attr] w (Res3 (findB s k attr) w) := by
  have HF := Lib.hid (find_name (attr := attr) hlt h1 h2)
  have hc : ((s[k].toNat : Int) != 38) = false := by rw [h1]; rfl
  have hp := amp_hash hlt h1
  rw [h2] at hp
  have HH := Lib.hid hp
  clear h1 h2 hp
  go_enter Tryd.func46, Tryd.ntmps46
  go_wp2_with (first
    | (go_at_call 69; refine (begins_at _ _ _ k _ (by omega) (by omega) hl (by decide)).mono ?_; rintro e w' ⟨rfl, rfl⟩; rw [HH.out])
    | (go_at_call 72; refine (names_any _).mono ?_; rintro e w1 ⟨rfl, hn1, x1, hsz⟩))
  have HN := Lib.hid hn1
  clear hn1
  go_loop [16, 17, 18] (fun st sn sj => ∃ (T : List UInt8) (N j : Nat), st = .string ⟨⟨T⟩⟩ ∧ sn = .int .i64 N ∧ sj = .int .i64 j ∧ j ≤ 52 ∧ NameRel s k j T N) (fun _ _ sj => 52 - (intOf sj).toNat)
  case atStart => exact ⟨[], 0, 0, rfl, rfl, rfl, by omega, NameRel.start hlt⟩
  case round =>
    obtain ⟨T, N, j, rfl, rfl, rfl, hj, hr⟩ := hrel
    have hN := hr.le
    have HR := Lib.hid hr
    clear hr
    by_cases hj2 : j < 52
    · obtain ⟨x, hx⟩ : ∃ x, allN[j]? = some x := ⟨_, List.getElem?_eq_getElem (by rw [allN_len]; exact hj2)⟩
      obtain ⟨c1, c2, c3⟩ := HN.out j x hx
      obtain ⟨hx1, hx0⟩ := name_short hx
      obtain ⟨s1, s2, s3⟩ := HR.out.step hx hlt
      have S1 := Lib.hid s1
      have S2 := Lib.hid s2
      have S3 := Lib.hid s3
      clear hx s1 s2 s3
      rw [Nat.mul_comm] at c1 c2 c3
      cases hp : x.name.isPrefixOf (s.drop (k + 1))
      · have E := Lib.hid (S3.out (ev_off hp))
        have HP := Lib.hid hp
        clear hp
        go_wp2_with (go_at_call 69; refine (begins_at _ _ _ (k + 1) _ (by omega) (by omega) hl (by omega)).mono ?_; rintro e w' ⟨rfl, rfl⟩; rw [HP.out])
        go_round
        case rel => exact ⟨T, N, j + 1, rfl, rfl, by go_num, by omega, E.out⟩
        case measure => simp [intOf]; omega
      · have hl2 := prefix_len hp
        rw [List.length_drop] at hl2
        have hl3 : k + 1 + x.name.length ≤ s.length := by omega
        clear hl2
        have hdd := List.drop_drop (i := x.name.length) (j := k + 1) (l := s)
        cases hs : ([59] : List UInt8).isPrefixOf (s.drop (k + 1 + x.name.length))
        · have he := ev_bare hp (by rw [hdd]; exact hs)
          cases hL : x.loose
          · rw [hL] at he c3
            have E := Lib.hid (S3.out he)
            have HP := Lib.hid hp
            have HS := Lib.hid hs
            clear hp hs he hL hdd
            go_wp2_with (go_at_call 69; (first | refine (begins_at _ _ _ (k + 1) _ (by omega) (by omega) hl (by omega)).mono ?_ | refine (begins_at _ _ _ (k + 1 + x.name.length) _ (by omega) (by omega) hl (by decide)).mono ?_); rintro e w' ⟨rfl, rfl⟩; first | rw [HP.out] | rw [HS.out])
            go_round
            case rel => exact ⟨T, N, j + 1, rfl, rfl, by go_num, by omega, E.out⟩
            case measure => simp [intOf]; omega
          · rw [hL] at he c3
            rw [if_pos rfl] at he
            rw [he] at S1 S2
            have HP := Lib.hid hp
            have HS := Lib.hid hs
            clear hp hs he hL hdd
            by_cases hlt3 : N < k + 1 + x.name.length
            · have E := Lib.hid (S1.out hlt3 hx0)
              go_wp2_with (go_at_call 69; (first | refine (begins_at _ _ _ (k + 1) _ (by omega) (by omega) hl (by omega)).mono ?_ | refine (begins_at _ _ _ (k + 1 + x.name.length) _ (by omega) (by omega) hl (by decide)).mono ?_); rintro e w' ⟨rfl, rfl⟩; first | rw [HP.out] | rw [HS.out])
              go_round
              case rel => exact ⟨_, _, j + 1, rfl, by go_num, by go_num, by omega, E.out⟩
              case measure => simp [intOf]; omega
            · have hge3 : k + 1 + x.name.length ≤ N := by omega
              have E := Lib.hid (S2.out hge3)
              clear hlt3
              go_wp2_with (go_at_call 69; (first | refine (begins_at _ _ _ (k + 1) _ (by omega) (by omega) hl (by omega)).mono ?_ | refine (begins_at _ _ _ (k + 1 + x.name.length) _ (by omega) (by omega) hl (by decide)).mono ?_); rintro e w' ⟨rfl, rfl⟩; first | rw [HP.out] | rw [HS.out])
              go_round
              case rel => exact ⟨T, N, j + 1, rfl, rfl, by go_num, by omega, E.out⟩
              case measure => simp [intOf]; omega
        · have he := ev_semi hp (by rw [hdd]; exact hs)
          rw [he] at S1 S2
          have HP := Lib.hid hp
          have HS := Lib.hid hs
          clear hp hs he hdd
          by_cases hlt3 : N < k + 1 + (x.name.length + 1)
          · have E := Lib.hid (S1.out hlt3 (by omega))
            have hlt4 : (N : Int) < k + 1 + x.name.length + 1 := by omega
            clear hlt3
            go_wp2_with (go_at_call 69; (first | refine (begins_at _ _ _ (k + 1) _ (by omega) (by omega) hl (by omega)).mono ?_ | refine (begins_at _ _ _ (k + 1 + x.name.length) _ (by omega) (by omega) hl (by decide)).mono ?_); rintro e w' ⟨rfl, rfl⟩; first | rw [HP.out] | rw [HS.out])
            go_round
            case rel => exact ⟨_, _, j + 1, rfl, by go_num, by go_num, by omega, E.out⟩
            case measure => simp [intOf]; omega
          · have hge3 : k + 1 + (x.name.length + 1) ≤ N := by omega
            have E := Lib.hid (S2.out hge3)
            have hge4 : (k : Int) + 1 + x.name.length + 1 ≤ N := by omega
            clear hlt3 hge3
            go_wp2_with (go_at_call 69; (first | refine (begins_at _ _ _ (k + 1) _ (by omega) (by omega) hl (by omega)).mono ?_ | refine (begins_at _ _ _ (k + 1 + x.name.length) _ (by omega) (by omega) hl (by decide)).mono ?_); rintro e w' ⟨rfl, rfl⟩; first | rw [HP.out] | rw [HS.out])
            go_round
            case rel => exact ⟨T, N, j + 1, rfl, rfl, by go_num, by omega, E.out⟩
            case measure => simp [intOf]; omega
    · have hj3 : j = 52 := by omega
      subst hj3
      obtain ⟨f1, f2⟩ := HR.out.fin
      obtain ⟨m, hm⟩ : ∃ m, (bestF (s.drop (k + 1))).2 = m := ⟨_, rfl⟩
      have hnl := bestF_le (s.drop (k + 1))
      rw [List.length_drop] at hnl
      rw [hm] at f2 hnl HF
      subst f1
      clear hm HR
      by_cases h0 : m = 0
      · subst h0
        have hN0 : N = 0 := f2
        clear f2
        subst hN0
        go_wp2_with fail
        go_ret3
        rw [HF.out, if_pos trivial]
        exact ⟨rfl, x1⟩
      · have hN1 : N = k + 1 + m := by rw [f2]; unfold nextOf; rw [if_neg h0]
        clear f2
        subst hN1
        have H0 := Lib.hid h0
        have hm1 : 0 < m := by omega
        have hN0 : (((k + 1 + m : Nat) : Int) == 0) = false := by rw [beq_eq_false_iff_ne]; omega
        clear h0
        cases attr
        · go_wp2_with fail
          go_ret3
          rw [HF.out, if_neg H0.out]
          exact ⟨by first | rfl | (congr 2; go_num), x1⟩
        · go_wp2_with (first
            | (go_at_call 73; refine (refAlpha_any _ _).mono ?_; rintro e w' ⟨rfl, rfl⟩)
            | (go_at_call 74; refine (refDigit_any _ _).mono ?_; rintro e w' ⟨rfl, rfl⟩))
          all_goals
            go_ret3
            first
              | (have h3 : k + 1 + m < s.length := by omega
                 have hs : shut s true (k + 1 + m) = true := by rw [shutI (by omega), dif_pos h3]; clear HF H0 hc hnl hN0 HN; first | (simp [*]; done) | simp_all
                 rw [HF.out, if_neg H0.out, if_pos hs]
                 exact ⟨rfl, x1⟩)
              | (have h3 : k + 1 + m < s.length := by omega
                 have hs : ¬ shut s true (k + 1 + m) = true := by rw [shutI (by omega), dif_pos h3]; clear HF H0 hc hnl hN0 HN; first | (simp [*]; done) | simp_all
                 rw [HF.out, if_neg H0.out, if_neg hs]
                 exact ⟨by first | rfl | (congr 2; go_num), x1⟩)
              | (have h3 : ¬ k + 1 + m < s.length := by omega
                 have hs : ¬ shut s true (k + 1 + m) = true := by rw [shutI (by omega), dif_neg h3]; simp
                 rw [HF.out, if_neg H0.out, if_neg hs]
                 exact ⟨by first | rfl | (congr 2; go_num), x1⟩)
              | (have hs : ¬ shut s true (k + 1 + m) = true := by rw [shutI (by omega)]; simp [*]
                 rw [HF.out, if_neg H0.out, if_neg hs]
                 exact ⟨by first | rfl | (congr 2; go_num), x1⟩)
theorem refRefsFind_any (s : List UInt8) (i : Int) (attr : Bool) (w : World) (hl : s.length < 100000) :
    Calls Tryd.prog 46 #[.string ⟨⟨s⟩⟩, .int .i64 i, .bool attr] w (Res3 (findI s i attr) w) := by
  unfold findI
  by_cases hi : i < 0
  · rw [if_pos hi]
    exact refFind_neg s i attr w hi
  · rw [if_neg hi]
    obtain ⟨k, rfl⟩ : ∃ k : Nat, i = k := ⟨i.toNat, by omega⟩
    rw [Int.toNat_natCast]
    by_cases hk : k < s.length ∧ s.getD k 0 = 38
    · obtain ⟨hk, hc⟩ := hk
      rw [getD_get hk] at hc
      cases hp : ([35] : List UInt8).isPrefixOf (s.drop (k + 1))
      · exact refFind_word s k attr w hl hk hc hp
      · exact refFind_hash s k attr w hl hk hc hp
    · rw [find_off hk]
      exact refFind_none s k attr w hk
end Go.Proofs.YtbolajljfkjfaaaDoor
