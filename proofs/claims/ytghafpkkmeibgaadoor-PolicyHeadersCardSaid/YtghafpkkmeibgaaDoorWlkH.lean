/-
  What is proved: the walk of the statement PolicyHeaders: it answers true; arguments that are headers. Conditions: headers that fit, what the package's variable holds.
-/
import Derived.Test.YtghafpkkmeibgaaDoorHdrP
import Derived.Test.YtghafpkkmeibgaaDoorSay
import Derived.Test.YtghafpkkmeibgaaDoorOpn4
namespace Go.Proofs.YtghafpkkmeibgaaDoor
open Go.RowKit Go.ChangeShapes Go.WideShapes Go.Deep Go.ChangeAt

theorem hdrs_of_trod {H : Type} {enc : TypeId × Value → H} {w : World} {sp : Nat → Bool} {fuel : Nat} {v : Value} {x : DataW H × List MemPlace} (h : DataW.trod enc Tryd.prog w 0 sp true fuel 45 [v] = some x) : ∃ l, HdrsAt w v l := by
  rcases open_slice_fields Tryd.underlying45 Tryd.underlying47 (by kernel_rfl) (by kernel_rfl) h with ⟨hcs, hx⟩ | ⟨a, len, cap, m, D, Pl, hcs, _, hl, hm, hmm, hx, hi⟩
  · simp only [List.cons.injEq, and_true] at hcs
    subst hcs
    exact ⟨[], none, 0, rfl, Nat.zero_le _, by simp, .inl rfl⟩
  · simp only [List.cons.injEq, and_true] at hcs
    subst hcs
    have hle : len ≤ m := by rw [hmm]; split <;> omega
    have key : ∀ i, i < len → ∃ (d : Hdr), w.cell? (a.add (i * 2 + 0)) = some (.string ⟨⟨d.name⟩⟩) ∧ w.cell? (a.add (i * 2 + 1)) = some (.string ⟨⟨d.val⟩⟩) ∧ d.name.length ≤ maxLen ∧ d.val.length ≤ maxLen := by
      intro i hlt
      obtain ⟨ys, n, _, _, _, hf⟩ := hi i (by omega)
      obtain ⟨v0, y0, c0, _, t0⟩ := hf 0 _ rfl
      obtain ⟨v1, y1, c1, _, t1⟩ := hf 1 _ rfl
      obtain ⟨s, hs, _, hsz⟩ := DataW.trod_string Tryd.underlying9 t0
      obtain ⟨t, ht, _, htz⟩ := DataW.trod_string Tryd.underlying9 t1
      simp only [List.cons.injEq, and_true] at hs ht
      subst hs ht
      exact ⟨⟨s.data.toList, t.data.toList⟩, c0, c1, hsz, htz⟩
    obtain ⟨D2, hD⟩ : ∃ D2 : Nat → Hdr, ∀ i, i < len → w.cell? (a.add (i * 2 + 0)) = some (.string ⟨⟨(D2 i).name⟩⟩) ∧ w.cell? (a.add (i * 2 + 1)) = some (.string ⟨⟨(D2 i).val⟩⟩) ∧ (D2 i).name.length ≤ maxLen ∧ (D2 i).val.length ≤ maxLen := by
      refine ⟨fun i => if h : i < len then (key i h).choose else ⟨[], []⟩, fun i h => ?_⟩
      simp only [h, dif_pos]
      exact (key i h).choose_spec
    have hlen : ((List.range len).map D2).length = len := by simp
    refine ⟨(List.range len).map D2, some a, cap, by rw [hlen], by rw [hlen]; omega, fun d hd => ?_, ?_⟩
    · obtain ⟨i, hi, rfl⟩ := List.mem_map.1 hd
      exact (hD i (List.mem_range.1 hi)).2.2
    · by_cases h0 : len = 0
      · exact .inl (List.eq_nil_of_length_eq_zero (by rw [hlen]; exact h0))
      · obtain ⟨b, off, spot⟩ := a
        have hc0 := (hD 0 (by omega)).1
        have hsp : spot = none := cell_spot (a := ⟨b, off + (0 * 2 + 0), spot⟩) hc0
        subst hsp
        refine .inr ⟨b, off, rfl, cell_lt (a := ⟨b, off + (0 * 2 + 0), none⟩) hc0, fun i hi => ?_⟩
        rw [hlen] at hi
        obtain ⟨e1, e2, _, _⟩ := hD i hi
        rw [add_plain] at e1 e2
        simp only [List.getElem_map, List.getElem_range]
        exact ⟨e1, e2⟩
set_option maxRecDepth 100000 in
theorem open_hdrs {H : Type} {enc : TypeId × Value → H} {w : World} {v : Value} {d : DataW H} {ps : List MemPlace} (hv : Value.okWide Tryd.prog w .any 0 45 v) (h : DataW.Trod enc Tryd.prog w 0 (fun _ => true) true 45 v d ps) : ∃ l, HdrsAt w v l := by
  obtain ⟨n, hn⟩ := h
  obtain ⟨a0, len, cap, rfl⟩ := okWide_slice Tryd.underlying45 hv
  exact hdrs_of_trod (by simpa [Value.cells] using hn)
set_option maxHeartbeats 8000000 in
set_option maxRecDepth 100000 in
theorem hdrs_walk (v : Value) (l : List Hdr) (w : World) (hm : MaxIs w) (H : HdrsAt w v l) :
    Calls Tryd.prog 8 #[v] w fun e w' => e = .returned (.bool true) ∧ Ext w w' := by
  have hlm : l.length ≤ 9223372036854775807 ∧ ∀ h ∈ l, h.name.length ≤ 9223372036854775807 ∧ h.val.length ≤ 9223372036854775807 := by obtain ⟨_, _, _, h1, h2, _⟩ := H; exact ⟨h1, h2⟩
  obtain ⟨hl1, hl2⟩ := hlm
  obtain ⟨a, cap, rfl, hcl⟩ := H.cells
  have HC := Lib.hid hcl
  have HL2 := Lib.hid hl2
  clear hcl hl2
  by_cases g1 : 20 < l.length
  · go_enter Tryd.func8, Tryd.ntmps8
    go_wp2_with (go_at_call 15; refine (says_any _ hm).mono ?_; rintro e w1 ⟨rfl, x1⟩)
    go_ret
    exact ⟨rfl, x1⟩
  · go_enter Tryd.func8, Tryd.ntmps8
    go_wp2_with fail
    go_loop [3] (fun i => ∃ k : Nat, i = .int .i64 k ∧ k ≤ l.length ∧ Hid (∀ j (hj : j < l.length), j < k → l[j].name.length ≤ 60 ∧ l[j].val.length ≤ 5000)) (fun i => l.length - (intOf i).toNat)
    case atStart => exact ⟨0, rfl, by omega, Lib.hid (fun j _ hj => by omega)⟩
    case round =>
      obtain ⟨k, rfl, hk, HN⟩ := hrel
      have k0 : (0 : Int) ≤ (k : Int) := by omega
      by_cases hlt : k < l.length
      · obtain ⟨b, off, rfl, hb, c1, c2⟩ := HC.out k hlt
        obtain ⟨m1, m2⟩ := HL2.out l[k] (List.getElem_mem hlt)
        obtain ⟨h, hh⟩ : ∃ h, l[k] = h := ⟨_, rfl⟩
        have HH := Lib.hid hh
        rw [hh] at c1 c2 m1 m2
        have k1 : (k : Int) < (l.length : Int) := by omega
        clear hh
        by_cases q1 : 60 < h.name.length
        · go_wp2_with (go_at_call 15; refine (says_any _ hm).mono ?_; rintro e w1 ⟨rfl, x1⟩)
          go_ret
          exact ⟨rfl, x1⟩
        · by_cases q2 : 5000 < h.val.length
          · go_wp2_with (go_at_call 15; refine (says_any _ hm).mono ?_; rintro e w1 ⟨rfl, x1⟩)
            go_ret
            exact ⟨rfl, x1⟩
          · have HK : Hid (∀ j (hj : j < l.length), j < k + 1 → l[j].name.length ≤ 60 ∧ l[j].val.length ≤ 5000) := Lib.hid (fun j hj hjk => by
              by_cases e : j = k
              · subst e; rw [HH.out]; omega
              · exact HN.out j hj (by omega))
            go_wp2_with fail
            go_round
            case rel => exact ⟨k + 1, by go_num, by omega, HK⟩
            case measure => simp [intOf]; omega
      · obtain rfl : k = l.length := by omega
        have hok : HdrOk l := ⟨by omega, fun h hm => by
          obtain ⟨j, hj, rfl⟩ := List.getElem_of_mem hm
          have := HN.out j hj hj
          omega⟩
        have c1 := headers_any _ l w hm H hok
        have c2 := fun W (hW : Ext w W) => headersR_any _ l W (H.ext hW) hok
        clear hok
        cases hr : hdrsL l with
        | none =>
          rw [hr] at c1 c2
          clear hr
          go_wp2_with fail
          refine c1.mono ?_
          rintro e w1 ⟨rfl, x1⟩
          go_wp2_with fail
          refine (c2 _ x1).mono ?_
          rintro e w2 ⟨rfl, x2⟩
          have y2 := Ext.trans x1 x2
          have hnil : PolsAt w2 (.slice none 0 0) [] := (OwnP.nil 0 w2).pols (by decide)
          go_wp2_with fail
          refine (all_true _ _ [] _ hnil hnil).mono ?_
          rintro e w3 ⟨rfl, x3⟩
          have y3 := Ext.trans y2 x3
          go_wp2_with fail
          refine (says_any _ (hm.ext y3)).mono ?_
          rintro e w4 ⟨rfl, x4⟩
          go_wp2_with fail
          go_ret
          exact ⟨rfl, Ext.trans y3 x4⟩
        | some L =>
          rw [hr] at c1 c2
          clear hr
          go_wp2_with fail
          refine c1.mono ?_
          rintro e w1 ⟨u1, rfl, p1, x1⟩
          obtain ⟨ua, uc, rfl, _⟩ := p1.cells
          go_wp2_with fail
          refine (c2 _ x1).mono ?_
          rintro e w2 ⟨u2, rfl, p2, x2⟩
          obtain ⟨va, vc, rfl, _⟩ := p2.cells
          have y2 := Ext.trans x1 x2
          go_wp2_with fail
          refine (all_true _ _ L _ (p1.ext x2) p2).mono ?_
          rintro e w3 ⟨rfl, x3⟩
          have y3 := Ext.trans y2 x3
          go_wp2_with fail
          refine (says_any _ (hm.ext y3)).mono ?_
          rintro e w4 ⟨rfl, x4⟩
          go_wp2_with fail
          go_ret
          exact ⟨rfl, Ext.trans y3 x4⟩
end Go.Proofs.YtghafpkkmeibgaaDoor
