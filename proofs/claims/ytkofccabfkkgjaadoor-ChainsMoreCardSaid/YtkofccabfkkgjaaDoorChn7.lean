/-
  What is proved: the walk of the statement ChainsMore: it answers true. Conditions: a text that fits, what the package's variables hold.
-/
import Derived.Test.YtkofccabfkkgjaaDoorChnQ
namespace Go.Proofs.YtkofccabfkkgjaaDoor
open Go.RowKit

theorem idx_step {L : List (List UInt8)} {m : Nat} (V : List UInt8) (h : m < L.length) : m + (L.drop m).idxOf V = if L[m] = V then m else m + 1 + (L.drop (m + 1)).idxOf V := by
  rw [List.drop_eq_getElem_cons h, List.idxOf_cons]
  by_cases e : L[m] = V
  · rw [if_pos e]
    have : (L[m] == V) = true := by simpa using e
    rw [this]
    rfl
  · rw [if_neg e]
    have : (L[m] == V) = false := beq_eq_false_iff_ne.2 e
    rw [this]
    simp only [cond_false]
    omega
set_option maxHeartbeats 8000000 in
set_option maxRecDepth 100000 in
theorem more_walk (s : List UInt8) (c d : Nat) (w : World) (G : ChG w) (hc : c ≤ 255) (hd : d ≤ 255) (hs : s.length ≤ maxLen) :
    Calls Tryd.prog 7 #[.string ⟨⟨s⟩⟩, .int .u8 (c : Int), .int .u8 (d : Int)] w fun e w' => e = .returned (.bool true) ∧ Ext w w' := by
  unfold maxLen at hs
  by_cases hlt : 300 < s.length
  · have cf := falls_any w G
    go_enter Tryd.func7, Tryd.ntmps7
    go_wp2_with (go_at_call 11; refine cf.mono ?_; rintro e w1 ⟨rfl, x1⟩)
    go_ret
    exact ⟨rfl, x1⟩
  · have hm10 : c % 10 < namesM.length := by show c % 10 < 10; omega
    obtain ⟨M, hM⟩ : ∃ M, namesM[c % 10]'hm10 = M := ⟨_, rfl⟩
    have hMm : M ∈ namesM := by rw [← hM]; exact List.getElem_mem _
    have hlit : ([Value.string { data := #[100, 101, 102, 97, 117, 108, 116, 45, 115, 114, 99] }, Value.string { data := #[115, 99, 114, 105, 112, 116, 45, 115, 114, 99] }, Value.string { data := #[115, 99, 114, 105, 112, 116, 45, 115, 114, 99, 45, 101, 108, 101, 109] }, Value.string { data := #[115, 99, 114, 105, 112, 116, 45, 115, 114, 99, 45, 97, 116, 116, 114] }, Value.string { data := #[115, 116, 121, 108, 101, 45, 115, 114, 99] }, Value.string { data := #[115, 116, 121, 108, 101, 45, 115, 114, 99, 45, 101, 108, 101, 109] }, Value.string { data := #[105, 109, 103, 45, 115, 114, 99] }, Value.string { data := #[99, 104, 105, 108, 100, 45, 115, 114, 99] }, Value.string { data := #[102, 114, 97, 109, 101, 45, 115, 114, 99] }, Value.string { data := #[120] }] : List Value)[c % 10]? = some (.string ⟨⟨M⟩⟩) := by
      show (strCells namesM)[c % 10]? = _
      unfold strCells
      rw [List.getElem?_map, List.getElem?_eq_getElem hm10, hM]
      rfl
    have hMl : M.length ≤ 20 := by
      have : ∀ x ∈ namesM, x.length ≤ 20 := by decide
      exact this M hMm
    have hK1 : (1 : Int) ≤ 1 + (d : Int) % 16 := by omega
    have hK2 : 1 + (d : Int) % 16 ≤ 16 := by omega
    have q1 := more_law s hK1 hK2 hMm
    obtain ⟨V, hV⟩ : ∃ V, nameC s (1 + (d : Int) % 16) = V := ⟨_, rfl⟩
    obtain ⟨U, hU⟩ : ∃ U, nameC (s ++ (59 :: (M ++ [32, 122]))) (1 + (d : Int) % 16) = U := ⟨_, rfl⟩
    obtain ⟨N, hN⟩ : ∃ N, effL (1 + (d : Int) % 16) = N := ⟨_, rfl⟩
    obtain ⟨L, hL⟩ : ∃ L, chainL N = L := ⟨_, rfl⟩
    have hLl : L.length ≤ 4 := by rw [← hL]; exact chain_len N
    have hNl : N.length ≤ 20 := by rw [← hN]; exact eff_len _
    have hLe : ∀ x ∈ L, x.length ≤ 1000 := by rw [← hL]; exact chain_each N (by omega)
    have cn1 := fun W G (h : s.length < 100000) => named28_any s (1 + (d : Int) % 16) W G h
    have cn2 := fun W G (h : (s ++ (59 :: (M ++ [32, 122]))).length < 100000) => named28_any (s ++ (59 :: (M ++ [32, 122]))) (1 + (d : Int) % 16) W G h
    have ce := fun W G => effective_any (1 + (d : Int) % 16) W G
    have cc := fun W => chain_any N W
    rw [hV] at cn1
    rw [hU] at cn2
    rw [hN] at ce
    rw [hL] at cc
    rw [hU, hV, hN, hL] at q1
    have Q1 := Lib.hid q1
    have c10 : (0 : Int) ≤ (c : Int) % 10 := by omega
    have c11 : (c : Int) % 10 < 10 := by omega
    have HMM := Lib.hid hMm
    clear q1 hV hU hN hL hM hMm hm10
    go_enter Tryd.func7, Tryd.ntmps7
    go_wp2_with fail
    have x0 : Ext w (w.alloc (.cells (Array.mk [Value.string { data := #[100, 101, 102, 97, 117, 108, 116, 45, 115, 114, 99] }, Value.string { data := #[115, 99, 114, 105, 112, 116, 45, 115, 114, 99] }, Value.string { data := #[115, 99, 114, 105, 112, 116, 45, 115, 114, 99, 45, 101, 108, 101, 109] }, Value.string { data := #[115, 99, 114, 105, 112, 116, 45, 115, 114, 99, 45, 97, 116, 116, 114] }, Value.string { data := #[115, 116, 121, 108, 101, 45, 115, 114, 99] }, Value.string { data := #[115, 116, 121, 108, 101, 45, 115, 114, 99, 45, 101, 108, 101, 109] }, Value.string { data := #[105, 109, 103, 45, 115, 114, 99] }, Value.string { data := #[99, 104, 105, 108, 100, 45, 115, 114, 99] }, Value.string { data := #[102, 114, 97, 109, 101, 45, 115, 114, 99] }, Value.string { data := #[120] }]) 9)) := (Below.refl _ _).alloc (Nat.le_refl _) _
    refine (cn1 _ (G.ext x0) (by omega)).mono ?_
    rintro e w1 ⟨rfl, x1⟩
    have y1 := Ext.trans x0 x1
    clear hlit
    go_wp2_with fail
    refine (cn2 _ (G.ext y1) (by simp; omega)).mono ?_
    rintro e w2 ⟨rfl, x2⟩
    have y2 := Ext.trans y1 x2
    go_wp2_with fail
    refine (ce _ (G.ext y2)).mono ?_
    rintro e w2' ⟨rfl, rfl⟩
    go_wp2_with fail
    refine (cc _).mono ?_
    rintro e w3 ⟨v3, rfl, h3, x3⟩
    have hS := h3.strs (by unfold maxLen; omega)
    obtain ⟨a3, c3, rfl⟩ := own_form h3
    have y3 := Ext.trans y2 x3
    go_wp2_with fail
    have hlen0 : (0 : Int) ≤ (L.length : Int) := by omega
    have hS := hS (each_max hLe)
    clear ce cc cn1 cn2 x0 x1 x2 x3 h3
    go_loopw [13, 14, 15] (fun a b i wr => ∃ (z : Int) (A B n : Nat), i = .int .i64 z ∧ a = .int .i64 A ∧ b = .int .i64 B ∧ Hid (z = (n : Int) - 1) ∧ -1 ≤ z ∧ z < L.length ∧ n ≤ L.length ∧ A ≤ L.length ∧ B ≤ L.length ∧ Hid (A = n + (L.drop n).idxOf V) ∧ Hid (B = n + (L.drop n).idxOf M) ∧ w3 = wr) (fun _ _ i _ => (intOf i + 1).toNat)
    case atStart => exact ⟨_, L.length, L.length, L.length, rfl, rfl, rfl, Lib.hid rfl, by omega, by omega, Nat.le_refl _, Nat.le_refl _, Nat.le_refl _, Lib.hid (by simp), Lib.hid (by simp), rfl⟩
    case round =>
      obtain ⟨z, A, B, n, rfl, rfl, rfl, HZ, hz1, hz2, hn, hA, hB, HA, HB, rfl⟩ := hrel
      by_cases h0 : 0 ≤ z
      · obtain ⟨m, rfl⟩ := Int.eq_ofNat_of_zero_le h0
        have hnm : n = m + 1 := by have := HZ.out; omega
        subst hnm
        have hml : m < L.length := by omega
        obtain ⟨av, cv, ev, hcl⟩ := hS.cells
        obtain ⟨b2, o2, e2, hb2, c2⟩ := hcl m hml
        cases ev
        subst e2
        obtain ⟨x, hx⟩ : ∃ x, L[m] = x := ⟨_, rfl⟩
        rw [hx] at c2
        have HV := Lib.hid (idx_step V hml)
        have HM := Lib.hid (idx_step M hml)
        rw [hx] at HV HM
        clear hx hcl
        by_cases h1 : x = V
        · have e1 : (x == V) = true := by simpa using h1
          have HA2 : Hid (m = m + (L.drop m).idxOf V) := Lib.hid (by rw [HV.out, if_pos h1])
          by_cases h2 : x = M
          · have e2 : (x == M) = true := by simpa using h2
            have HB2 : Hid (m = m + (L.drop m).idxOf M) := Lib.hid (by rw [HM.out, if_pos h2])
            clear h1 h2
            go_wp2
            go_roundw
            case rel => exact ⟨(m : Int) - 1, m, m, m, rfl, rfl, rfl, Lib.hid rfl, by omega, by omega, by omega, by omega, by omega, HA2, HB2, by first | rfl | trivial⟩
            case measure => first | (simp [intOf]; done) | (simp [intOf]; omega)
          · have e2 : (x == M) = false := beq_eq_false_iff_ne.2 h2
            have HB2 : Hid (B = m + (L.drop m).idxOf M) := Lib.hid (by rw [HM.out, if_neg h2]; exact HB.out)
            clear h1 h2
            go_wp2
            go_roundw
            case rel => exact ⟨(m : Int) - 1, m, B, m, rfl, rfl, rfl, Lib.hid rfl, by omega, by omega, by omega, by omega, by omega, HA2, HB2, by first | rfl | trivial⟩
            case measure => first | (simp [intOf]; done) | (simp [intOf]; omega)
        · have e1 : (x == V) = false := beq_eq_false_iff_ne.2 h1
          have HA2 : Hid (A = m + (L.drop m).idxOf V) := Lib.hid (by rw [HV.out, if_neg h1]; exact HA.out)
          by_cases h2 : x = M
          · have e2 : (x == M) = true := by simpa using h2
            have HB2 : Hid (m = m + (L.drop m).idxOf M) := Lib.hid (by rw [HM.out, if_pos h2])
            clear h1 h2
            go_wp2
            go_roundw
            case rel => exact ⟨(m : Int) - 1, A, m, m, rfl, rfl, rfl, Lib.hid rfl, by omega, by omega, by omega, by omega, by omega, HA2, HB2, by first | rfl | trivial⟩
            case measure => first | (simp [intOf]; done) | (simp [intOf]; omega)
          · have e2 : (x == M) = false := beq_eq_false_iff_ne.2 h2
            have HB2 : Hid (B = m + (L.drop m).idxOf M) := Lib.hid (by rw [HM.out, if_neg h2]; exact HB.out)
            clear h1 h2
            go_wp2
            go_roundw
            case rel => exact ⟨(m : Int) - 1, A, B, m, rfl, rfl, rfl, Lib.hid rfl, by omega, by omega, by omega, by omega, by omega, HA2, HB2, by first | rfl | trivial⟩
            case measure => first | (simp [intOf]; done) | (simp [intOf]; omega)
      · have hn0 : n = 0 := by have := HZ.out; omega
        subst hn0
        have HA2 : Hid (A = L.idxOf V) := Lib.hid (by rw [HA.out]; simp)
        have HB2 : Hid (B = L.idxOf M) := Lib.hid (by rw [HB.out]; simp)
        have eU : (U == U) = true := by simp
        by_cases hBA : B < A
        · have hUM : U = M := by rw [Q1.out, if_pos (by rw [← HA2.out, ← HB2.out]; exact hBA)]
          have e1 : (U == M) = true := by simpa using hUM
          clear hUM
          go_wp2_with fail
          refine (falls_any _ (G.ext y3)).mono ?_
          rintro e w4 ⟨rfl, x4⟩
          go_wp2_with fail
          go_ret
          exact ⟨rfl, Ext.trans y3 x4⟩
        · have hUV : U = V := by rw [Q1.out, if_neg (by rw [← HA2.out, ← HB2.out]; exact hBA)]
          have e1 : (U == V) = true := by simpa using hUV
          clear hUV
          go_wp2_with fail
          refine (falls_any _ (G.ext y3)).mono ?_
          rintro e w4 ⟨rfl, x4⟩
          go_wp2_with fail
          go_ret
          exact ⟨rfl, Ext.trans y3 x4⟩
theorem more_walkI (s : List UInt8) (c d : Int) (w : World) (G : ChG w) (hc0 : 0 ≤ c) (hc : c ≤ 255) (hd0 : 0 ≤ d) (hd : d ≤ 255) (hs : s.length ≤ maxLen) :
    Calls Tryd.prog 7 #[.string ⟨⟨s⟩⟩, .int .u8 c, .int .u8 d] w fun e w' => e = .returned (.bool true) ∧ Ext w w' := by
  obtain ⟨m, rfl⟩ := Int.eq_ofNat_of_zero_le hc0
  obtain ⟨n, rfl⟩ := Int.eq_ofNat_of_zero_le hd0
  exact more_walk s m n w G (by omega) (by omega) hs
end Go.Proofs.YtkofccabfkkgjaaDoor
