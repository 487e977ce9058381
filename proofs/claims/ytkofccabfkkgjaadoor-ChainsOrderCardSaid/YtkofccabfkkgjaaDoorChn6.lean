/-
  What is proved: the walk of the statement ChainsOrder: it answers true. Condition: what the package's variables hold.
-/
import Derived.Test.YtkofccabfkkgjaaDoorChnQ
import Derived.Test.YtkofccabfkkgjaaDoorChn3
namespace Go.Proofs.YtkofccabfkkgjaaDoor
open Go.RowKit

theorem order_facts {c : Nat} (h : c < namesO.length) : (chainL namesO[c]).head? = some namesO[c] ∧ (1 < (chainL namesO[c]).length → (chainL namesO[c])[(chainL namesO[c]).length - 1]? = some [100, 101, 102, 97, 117, 108, 116, 45, 115, 114, 99] ∧ namesO[c] ≠ [100, 101, 102, 97, 117, 108, 116, 45, 115, 114, 99]) ∧ (chainL namesO[c]).Nodup := by
  have key : ∀ n ∈ namesO, (chainL n).head? = some n ∧ (1 < (chainL n).length → (chainL n)[(chainL n).length - 1]? = some [100, 101, 102, 97, 117, 108, 116, 45, 115, 114, 99] ∧ n ≠ [100, 101, 102, 97, 117, 108, 116, 45, 115, 114, 99]) ∧ (chainL n).Nodup := by decide +kernel
  exact key _ (List.getElem_mem _)
set_option maxHeartbeats 8000000 in
set_option maxRecDepth 100000 in
theorem order_walk (c : Nat) (w : World) (G : ChG w) (hc : c ≤ 255) :
    Calls Tryd.prog 6 #[.int .u8 (c : Int)] w fun e w' => e = .returned (.bool true) ∧ Ext w w' := by
  have hm19 : c % 19 < namesO.length := by show c % 19 < 19; omega
  obtain ⟨f1, f2, f3⟩ := order_facts hm19
  obtain ⟨N, hN⟩ : ∃ N, namesO[c % 19]'hm19 = N := ⟨_, rfl⟩
  have hlit : ([Value.string { data := #[115, 99, 114, 105, 112, 116, 45, 115, 114, 99, 45, 101, 108, 101, 109] }, Value.string { data := #[115, 99, 114, 105, 112, 116, 45, 115, 114, 99, 45, 97, 116, 116, 114] }, Value.string { data := #[115, 116, 121, 108, 101, 45, 115, 114, 99, 45, 101, 108, 101, 109] }, Value.string { data := #[115, 116, 121, 108, 101, 45, 115, 114, 99, 45, 97, 116, 116, 114] }, Value.string { data := #[119, 111, 114, 107, 101, 114, 45, 115, 114, 99] }, Value.string { data := #[102, 114, 97, 109, 101, 45, 115, 114, 99] }, Value.string { data := #[115, 99, 114, 105, 112, 116, 45, 115, 114, 99] }, Value.string { data := #[115, 116, 121, 108, 101, 45, 115, 114, 99] }, Value.string { data := #[99, 104, 105, 108, 100, 45, 115, 114, 99] }, Value.string { data := #[99, 111, 110, 110, 101, 99, 116, 45, 115, 114, 99] }, Value.string { data := #[109, 97, 110, 105, 102, 101, 115, 116, 45, 115, 114, 99] }, Value.string { data := #[111, 98, 106, 101, 99, 116, 45, 115, 114, 99] }, Value.string { data := #[102, 111, 110, 116, 45, 115, 114, 99] }, Value.string { data := #[105, 109, 103, 45, 115, 114, 99] }, Value.string { data := #[109, 101, 100, 105, 97, 45, 115, 114, 99] }, Value.string { data := #[98, 97, 115, 101, 45, 117, 114, 105] }, Value.string { data := #[102, 111, 114, 109, 45, 97, 99, 116, 105, 111, 110] }, Value.string { data := #[100, 101, 102, 97, 117, 108, 116, 45, 115, 114, 99] }, Value.string { data := #[115, 97, 110, 100, 98, 111, 120] }] : List Value)[c % 19]? = some (.string ⟨⟨N⟩⟩) := by
    show (strCells namesO)[c % 19]? = _
    unfold strCells
    rw [List.getElem?_map, List.getElem?_eq_getElem hm19, hN]
    rfl
  rw [hN] at f1 f2 f3
  have hNl : N.length ≤ 20 := by
    have : ∀ x ∈ namesO, x.length ≤ 20 := by decide
    exact this N (by rw [← hN]; exact List.getElem_mem _)
  obtain ⟨L, hL⟩ : ∃ L, chainL N = L := ⟨_, rfl⟩
  have cc := fun W => chain_any N W
  have hLl : L.length ≤ 4 := by rw [← hL]; exact chain_len N
  rw [hL] at f1 f2 f3 cc
  have HND := Lib.hid f3
  have c10 : (0 : Int) ≤ (c : Int) % 19 := by omega
  have c11 : (c : Int) % 19 < 19 := by omega
  have HF2 := Lib.hid f2
  have HF1 := Lib.hid f1
  have hpos : 0 < L.length := by
    cases L with
    | nil => cases f1
    | cons _ _ => simp
  clear hN hL hm19 f1 f2 f3
  have x0 : Ext w (w.alloc (.cells (Array.mk [Value.string { data := #[115, 99, 114, 105, 112, 116, 45, 115, 114, 99, 45, 101, 108, 101, 109] }, Value.string { data := #[115, 99, 114, 105, 112, 116, 45, 115, 114, 99, 45, 97, 116, 116, 114] }, Value.string { data := #[115, 116, 121, 108, 101, 45, 115, 114, 99, 45, 101, 108, 101, 109] }, Value.string { data := #[115, 116, 121, 108, 101, 45, 115, 114, 99, 45, 97, 116, 116, 114] }, Value.string { data := #[119, 111, 114, 107, 101, 114, 45, 115, 114, 99] }, Value.string { data := #[102, 114, 97, 109, 101, 45, 115, 114, 99] }, Value.string { data := #[115, 99, 114, 105, 112, 116, 45, 115, 114, 99] }, Value.string { data := #[115, 116, 121, 108, 101, 45, 115, 114, 99] }, Value.string { data := #[99, 104, 105, 108, 100, 45, 115, 114, 99] }, Value.string { data := #[99, 111, 110, 110, 101, 99, 116, 45, 115, 114, 99] }, Value.string { data := #[109, 97, 110, 105, 102, 101, 115, 116, 45, 115, 114, 99] }, Value.string { data := #[111, 98, 106, 101, 99, 116, 45, 115, 114, 99] }, Value.string { data := #[102, 111, 110, 116, 45, 115, 114, 99] }, Value.string { data := #[105, 109, 103, 45, 115, 114, 99] }, Value.string { data := #[109, 101, 100, 105, 97, 45, 115, 114, 99] }, Value.string { data := #[98, 97, 115, 101, 45, 117, 114, 105] }, Value.string { data := #[102, 111, 114, 109, 45, 97, 99, 116, 105, 111, 110] }, Value.string { data := #[100, 101, 102, 97, 117, 108, 116, 45, 115, 114, 99] }, Value.string { data := #[115, 97, 110, 100, 98, 111, 120] }]) 9)) := (Below.refl _ _).alloc (Nat.le_refl _) _
  have X0 := Lib.hid x0
  clear x0
  have e00 : ((L.length : Int) == 0) = false := beq_eq_false_iff_ne.2 (by omega)
  have e01 : (L.length == 0) = false := beq_eq_false_iff_ne.2 (by omega)
  have e02 : ¬ L = [] := fun e => by rw [e] at hpos; simp at hpos
  have eN : (N == N) = true := by simp
  have eN2 : (N != N) = false := by simp
  go_enter Tryd.func6, Tryd.ntmps6
  go_wp2_with fail
  refine (cc _).mono ?_
  rintro e w3 ⟨v3, rfl, h3, x3⟩
  have y3 := Ext.trans X0.out x3
  obtain ⟨a3, c3, rfl⟩ := own_form h3
  obtain ⟨g, rfl⟩ : ∃ g, a3 = some ⟨g, 0, none⟩ := by
    rcases h3.2 with ⟨h, h'⟩ | ⟨g, cap, cur, e, _⟩
    · exact absurd h' (by omega)
    · simp only [Value.slice.injEq] at e
      exact ⟨g, e.1⟩
  have HC : Hid (∀ k (hk : k < L.length), w3.cell? ⟨g, k, none⟩ = some (.string ⟨⟨L[k]⟩⟩)) := Lib.hid (fun k hk => (h3.at_ rfl k hk).1)
  have hg := (h3.at_ rfl 0 hpos).2.2.2
  have c0 : w3.cell? ⟨g, 0, none⟩ = some (.string ⟨⟨N⟩⟩) := by
    rw [HC.out 0 hpos]
    have := HF1.out
    rw [List.head?_eq_getElem?, List.getElem?_eq_getElem hpos] at this
    rw [Option.some.inj this]
  clear hlit cc X0 x3 h3
  by_cases h1 : 1 < L.length
  · obtain ⟨q1, q2⟩ := HF2.out h1
    have cl : w3.cell? ⟨g, L.length - 1, none⟩ = some (.string ⟨⟨[100, 101, 102, 97, 117, 108, 116, 45, 115, 114, 99]⟩⟩) := by
      rw [HC.out (L.length - 1) (by omega)]
      rw [List.getElem?_eq_getElem (by omega)] at q1
      rw [Option.some.inj q1]
    have eD : (N == [100, 101, 102, 97, 117, 108, 116, 45, 115, 114, 99]) = false := beq_eq_false_iff_ne.2 q2
    have eD2 : (N != [100, 101, 102, 97, 117, 108, 116, 45, 115, 114, 99]) = true := by simpa using q2
    have d1 : decide ((1 : Int) < (L.length : Int)) = true := decide_eq_true (by omega)
    have d2 : decide (1 < L.length) = true := decide_eq_true h1
    clear q1 q2
    go_wp2_with fail
    go_loopw [6] (fun i wr => ∃ n : Nat, i = .int .i64 n ∧ n ≤ L.length ∧ Ext w3 wr) (fun i _ => L.length - (intOf i).toNat)
    case atStart => exact ⟨0, rfl, by omega, Ext.refl _⟩
    case round =>
      obtain ⟨n, rfl, hn, hx⟩ := hrel
      by_cases hlt : n < L.length
      · go_wp2_with fail
        go_loopw [7] (fun i wq => ∃ m : Nat, i = .int .i64 m ∧ m ≤ n ∧ Ext w3 wq) (fun i _ => n - (intOf i).toNat)
        case atStart => exact ⟨0, rfl, by omega, hx⟩
        case round =>
          obtain ⟨m, rfl, hm, hxq⟩ := hrel
          by_cases hlm : m < n
          · have c1 := (hxq.cell (p := ⟨g, n, none⟩) hg).trans (HC.out n hlt)
            have c2 := (hxq.cell (p := ⟨g, m, none⟩) hg).trans (HC.out m (by omega))
            have hne : ¬ L[n] = L[m] := fun e => (List.pairwise_iff_getElem.1 HND.out m n (by omega) hlt hlm) e.symm
            obtain ⟨x, hx1⟩ : ∃ x, L[n] = x := ⟨_, rfl⟩
            obtain ⟨y, hy1⟩ : ∃ y, L[m] = y := ⟨_, rfl⟩
            rw [hx1] at c1 hne
            rw [hy1] at c2 hne
            have e1 : (x == y) = false := beq_eq_false_iff_ne.2 hne
            have n0 : (0 : Int) ≤ (n : Int) := by omega
            have n1 : (n : Int) < (L.length : Int) := by omega
            have m0 : (0 : Int) ≤ (m : Int) := by omega
            have m1 : (m : Int) < (L.length : Int) := by omega
            clear hx1 hy1 hne
            go_wp2_with fail
            go_quiet (fail)
            go_wp2_with fail
            go_roundw
            case rel => exact ⟨m + 1, by go_num, by omega, below_drewN hxq _⟩
            case measure => simp [intOf]; omega
          · obtain rfl : m = n := by omega
            go_wp2_with fail
            go_roundw
            case rel => exact ⟨m + 1, by go_num, by omega, hxq⟩
            case measure => simp [intOf]; omega
      · obtain rfl : n = L.length := by omega
        go_wp2_with fail
        refine (falls_any _ (G.ext (Ext.trans y3 hx))).mono ?_
        rintro e w4 ⟨rfl, x4⟩
        go_wp2_with fail
        go_ret
        exact ⟨rfl, Ext.trans (Ext.trans y3 hx) x4⟩
  · have h11 : L.length = 1 := by omega
    have hcl : w3.cell? ⟨g, L.length - 1, none⟩ = some (.string ⟨⟨N⟩⟩) := by rw [h11]; exact c0
    by_cases hD : N = [100, 101, 102, 97, 117, 108, 116, 45, 115, 114, 99]
    · have eD : (N == [100, 101, 102, 97, 117, 108, 116, 45, 115, 114, 99]) = true := by simpa using hD
      have eD2 : (N != [100, 101, 102, 97, 117, 108, 116, 45, 115, 114, 99]) = false := by simpa using hD
      clear h11 hD
      go_wp2_with fail
      go_loopw [6] (fun i wr => ∃ n : Nat, i = .int .i64 n ∧ n ≤ L.length ∧ Ext w3 wr) (fun i _ => L.length - (intOf i).toNat)
      case atStart => exact ⟨0, rfl, by omega, Ext.refl _⟩
      case round =>
        obtain ⟨n, rfl, hn, hx⟩ := hrel
        by_cases hlt : n < L.length
        · go_wp2_with fail
          go_loopw [7] (fun i wq => ∃ m : Nat, i = .int .i64 m ∧ m ≤ n ∧ Ext w3 wq) (fun i _ => n - (intOf i).toNat)
          case atStart => exact ⟨0, rfl, by omega, hx⟩
          case round =>
            obtain ⟨m, rfl, hm, hxq⟩ := hrel
            by_cases hlm : m < n
            · have c1 := (hxq.cell (p := ⟨g, n, none⟩) hg).trans (HC.out n hlt)
              have c2 := (hxq.cell (p := ⟨g, m, none⟩) hg).trans (HC.out m (by omega))
              have hne : ¬ L[n] = L[m] := fun e => (List.pairwise_iff_getElem.1 HND.out m n (by omega) hlt hlm) e.symm
              obtain ⟨x, hx1⟩ : ∃ x, L[n] = x := ⟨_, rfl⟩
              obtain ⟨y, hy1⟩ : ∃ y, L[m] = y := ⟨_, rfl⟩
              rw [hx1] at c1 hne
              rw [hy1] at c2 hne
              have e1 : (x == y) = false := beq_eq_false_iff_ne.2 hne
              have n0 : (0 : Int) ≤ (n : Int) := by omega
              have n1 : (n : Int) < (L.length : Int) := by omega
              have m0 : (0 : Int) ≤ (m : Int) := by omega
              have m1 : (m : Int) < (L.length : Int) := by omega
              clear hx1 hy1 hne
              go_wp2_with fail
              go_quiet (fail)
              go_wp2_with fail
              go_roundw
              case rel => exact ⟨m + 1, by go_num, by omega, below_drewN hxq _⟩
              case measure => simp [intOf]; omega
            · obtain rfl : m = n := by omega
              go_wp2_with fail
              go_roundw
              case rel => exact ⟨m + 1, by go_num, by omega, hxq⟩
              case measure => simp [intOf]; omega
        · obtain rfl : n = L.length := by omega
          go_wp2_with fail
          refine (falls_any _ (G.ext (Ext.trans y3 hx))).mono ?_
          rintro e w4 ⟨rfl, x4⟩
          go_wp2_with fail
          go_ret
          exact ⟨rfl, Ext.trans (Ext.trans y3 hx) x4⟩
    · have eD : (N == [100, 101, 102, 97, 117, 108, 116, 45, 115, 114, 99]) = false := beq_eq_false_iff_ne.2 hD
      have eD2 : (N != [100, 101, 102, 97, 117, 108, 116, 45, 115, 114, 99]) = true := by simpa using hD
      clear h11 hD
      go_wp2_with fail
      go_loopw [6] (fun i wr => ∃ n : Nat, i = .int .i64 n ∧ n ≤ L.length ∧ Ext w3 wr) (fun i _ => L.length - (intOf i).toNat)
      case atStart => exact ⟨0, rfl, by omega, Ext.refl _⟩
      case round =>
        obtain ⟨n, rfl, hn, hx⟩ := hrel
        by_cases hlt : n < L.length
        · go_wp2_with fail
          go_loopw [7] (fun i wq => ∃ m : Nat, i = .int .i64 m ∧ m ≤ n ∧ Ext w3 wq) (fun i _ => n - (intOf i).toNat)
          case atStart => exact ⟨0, rfl, by omega, hx⟩
          case round =>
            obtain ⟨m, rfl, hm, hxq⟩ := hrel
            by_cases hlm : m < n
            · have c1 := (hxq.cell (p := ⟨g, n, none⟩) hg).trans (HC.out n hlt)
              have c2 := (hxq.cell (p := ⟨g, m, none⟩) hg).trans (HC.out m (by omega))
              have hne : ¬ L[n] = L[m] := fun e => (List.pairwise_iff_getElem.1 HND.out m n (by omega) hlt hlm) e.symm
              obtain ⟨x, hx1⟩ : ∃ x, L[n] = x := ⟨_, rfl⟩
              obtain ⟨y, hy1⟩ : ∃ y, L[m] = y := ⟨_, rfl⟩
              rw [hx1] at c1 hne
              rw [hy1] at c2 hne
              have e1 : (x == y) = false := beq_eq_false_iff_ne.2 hne
              have n0 : (0 : Int) ≤ (n : Int) := by omega
              have n1 : (n : Int) < (L.length : Int) := by omega
              have m0 : (0 : Int) ≤ (m : Int) := by omega
              have m1 : (m : Int) < (L.length : Int) := by omega
              clear hx1 hy1 hne
              go_wp2_with fail
              go_quiet (fail)
              go_wp2_with fail
              go_roundw
              case rel => exact ⟨m + 1, by go_num, by omega, below_drewN hxq _⟩
              case measure => simp [intOf]; omega
            · obtain rfl : m = n := by omega
              go_wp2_with fail
              go_roundw
              case rel => exact ⟨m + 1, by go_num, by omega, hxq⟩
              case measure => simp [intOf]; omega
        · obtain rfl : n = L.length := by omega
          go_wp2_with fail
          refine (falls_any _ (G.ext (Ext.trans y3 hx))).mono ?_
          rintro e w4 ⟨rfl, x4⟩
          go_wp2_with fail
          go_ret
          exact ⟨rfl, Ext.trans (Ext.trans y3 hx) x4⟩
theorem order_walkI (c : Int) (w : World) (G : ChG w) (hc0 : 0 ≤ c) (hc : c ≤ 255) :
    Calls Tryd.prog 6 #[.int .u8 c] w fun e w' => e = .returned (.bool true) ∧ Ext w w' := by
  obtain ⟨m, rfl⟩ := Int.eq_ofNat_of_zero_le hc0
  exact order_walk m w G (by omega)
end Go.Proofs.YtkofccabfkkgjaaDoor
