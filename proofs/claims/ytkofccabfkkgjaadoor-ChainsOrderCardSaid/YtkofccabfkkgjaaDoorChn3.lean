/-
  What is proved: the walk of the statement ChainsNames: it answers true. Conditions: a text that fits, what the package's variables hold.
-/
import Derived.Test.YtkofccabfkkgjaaDoorChnL
namespace Go.Proofs.YtkofccabfkkgjaaDoor
open Go.RowKit

/-- One text of a list of the call's own anew. -/
theorem OwnS.spoil {B g c n : Nat} {l : List (List UInt8)} {w : World} (hn : l.length = n) (h : OwnS B (.slice (some ⟨g, 0, none⟩) n c) l w) (k : Nat) (s : List UInt8) : OwnS B (.slice (some ⟨g, 0, none⟩) n c) (l.set k s) (w.setCell ⟨g, k, none⟩ (.string ⟨⟨s⟩⟩)) := by
  subst hn
  have := (World.ownsRow.stored h k (.string ⟨⟨s⟩⟩)).1
  unfold OwnS
  rw [List.length_set]
  have e : strCells (l.set k s) = (strCells l).set k (.string ⟨⟨s⟩⟩) := by
    unfold strCells
    rw [List.map_set]
  rw [e]
  exact this
theorem OwnS.at_ {B g c n : Nat} {l : List (List UInt8)} {w : World} (hn : l.length = n) (h : OwnS B (.slice (some ⟨g, 0, none⟩) n c) l w) (k : Nat) (hk : k < l.length) : w.cell? ⟨g, k, none⟩ = some (.string ⟨⟨l[k]⟩⟩) ∧ w.frozen? ⟨g, k, none⟩ = false ∧ B ≤ g ∧ g < w.heap.size := by
  subst hn
  refine ⟨?_, World.ownsRow.frozenAt h k, h.lt g rfl⟩
  rw [World.ownsRow.cellAt h k (by omega)]
  unfold strCells
  rw [List.getElem?_map, List.getElem?_eq_getElem hk]
  rfl
set_option maxHeartbeats 8000000 in
set_option maxRecDepth 100000 in
theorem names_walk (k : Int) (s : List UInt8) (w : World) (G : ChG w) (hs : s.length ≤ maxLen) :
    Calls Tryd.prog 3 #[.int .i64 k, .string ⟨⟨s⟩⟩] w fun e w' => e = .returned (.bool true) ∧ Ext w w' := by
  unfold maxLen at hs
  by_cases hlt : 300 < s.length
  · have cf := falls_any w G
    go_enter Tryd.func3, Tryd.ntmps3
    go_wp2_with (go_at_call 11; refine cf.mono ?_; rintro e w1 ⟨rfl, x1⟩)
    go_ret
    exact ⟨rfl, x1⟩
  · obtain ⟨L, hL⟩ : ∃ L, chainL s = L := ⟨_, rfl⟩
    have hLl : L.length ≤ 4 := by rw [← hL]; exact chain_len s
    have hLe : ∀ x ∈ L, x.length ≤ 1000 := by rw [← hL]; exact chain_each s (by omega)
    have cc := fun W => chain_any s W
    have cr := fun W => chainR_any s W
    rw [hL] at cc cr
    obtain ⟨E, hE⟩ : ∃ E, effL k = E := ⟨_, rfl⟩
    have ce := fun W G => effective_any k W G
    have cer := fun W => effectiveR_any k W
    rw [hE] at ce cer
    have eE : (E != E) = false := by simp
    have eE2 : (E == E) = true := by simp
    have HM : Hid (∀ x ∈ L, x.length ≤ maxLen) := Lib.hid (each_max hLe)
    have HL4 : Hid (L.length ≤ maxLen) := Lib.hid (by unfold maxLen; omega)
    have HLL : Hid ((L == L) = true) := Lib.hid (by simp)
    have cw := fun u v W H K => words_any u v L L W H K
    rw [HLL.out] at cw
    clear hL hE hLe
    go_enter Tryd.func3, Tryd.ntmps3
    go_wp2_with fail
    refine (cc _).mono ?_
    rintro e w1 ⟨v1, rfl, h1, x1⟩
    obtain ⟨a1, c1, rfl⟩ := own_form h1
    go_wp2_with fail
    refine (ce _ (G.ext x1)).mono ?_
    rintro e w1' ⟨rfl, rfl⟩
    go_wp2_with fail
    refine (cer _).mono ?_
    rintro e w2 ⟨rfl, x2⟩
    have h2 := h1.below x2
    have y2 := Ext.trans x1 x2
    go_wp2_with fail
    refine (cr _).mono ?_
    rintro e w3 ⟨v3, rfl, h3, x3⟩
    obtain ⟨a3, c3, rfl⟩ := own_form h3
    have h23 := h2.below x3
    have y3 := Ext.trans y2 x3
    go_wp2_with fail
    refine (cw _ _ _ (h23.strs HL4.out HM.out) (h3.strs HL4.out HM.out)).mono ?_
    rintro e w4 ⟨rfl, x4⟩
    have h4 := h23.below x4
    have y4 := Ext.trans y3 x4
    clear h1 h2 h3 h23 x1 x2 x3 x4 y2 y3 ce cer
    go_wp2_with fail
    go_loopw [6] (fun i wr => ∃ (q : Nat) (l : List (List UInt8)), i = .int .i64 q ∧ q ≤ L.length ∧ l.length = L.length ∧ OwnS w.heap.size (.slice a1 L.length c1) l wr ∧ Ext w wr) (fun i _ => L.length - (intOf i).toNat)
    case atStart => exact ⟨0, L, rfl, by omega, rfl, h4, y4⟩
    case round =>
      obtain ⟨q, l, rfl, hq, hlL, hO, hx⟩ := hrel
      by_cases hql : q < L.length
      · obtain ⟨g, rfl⟩ : ∃ g, a1 = some ⟨g, 0, none⟩ := by
          rcases hO.2 with ⟨h, h'⟩ | ⟨g, cap, cur, e, _⟩
          · exact absurd h' (by omega)
          · simp only [Value.slice.injEq] at e
            exact ⟨g, e.1⟩
        obtain ⟨z, d1, d2, d3, d4⟩ : ∃ z, wr.cell? ⟨g, q, none⟩ = some (.string ⟨⟨z⟩⟩) ∧ wr.frozen? ⟨g, q, none⟩ = false ∧ w.heap.size ≤ g ∧ g < wr.heap.size := ⟨_, hO.at_ hlL q (by omega)⟩
        have hO2 := hO.spoil hlL q [115, 112, 111, 105, 108, 116]
        have q1 : (0 : Int) ≤ (q : Int) := by omega
        have q2 : (q : Int) < (L.length : Int) := by omega
        have HLQ := Lib.hid hlL
        clear hlL
        go_wp2_with fail
        go_roundw
        case rel => exact ⟨q + 1, _, by go_num, by omega, by rw [List.length_set]; exact HLQ.out, hO2, hx.setCell d3 _⟩
        case measure => simp [intOf]; omega
      · have hqe : q = L.length := by omega
        clear hqe hlL
        go_wp2_with fail
        refine (cc _).mono ?_
        rintro e w5 ⟨v5, rfl, h5, x5⟩
        obtain ⟨a5, c5, rfl⟩ := own_form h5
        have y5 := Ext.trans hx x5
        go_wp2_with fail
        refine (cr _).mono ?_
        rintro e w6 ⟨v6, rfl, h6, x6⟩
        obtain ⟨a6, c6, rfl⟩ := own_form h6
        have h56 := h5.below x6
        have y6 := Ext.trans y5 x6
        go_wp2_with fail
        refine (cw _ _ _ (h56.strs HL4.out HM.out) (h6.strs HL4.out HM.out)).mono ?_
        rintro e w7 ⟨rfl, x7⟩
        have y7 := Ext.trans y6 x7
        go_wp2_with fail
        refine (falls_any _ (G.ext y7)).mono ?_
        rintro e w8 ⟨rfl, x8⟩
        go_wp2_with fail
        go_ret
        exact ⟨rfl, Ext.trans y7 x8⟩
end Go.Proofs.YtkofccabfkkgjaaDoor
