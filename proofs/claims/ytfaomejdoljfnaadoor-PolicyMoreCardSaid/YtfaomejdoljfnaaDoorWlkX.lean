/-
  What is proved: the walk of the statement PolicyMore: it answers true. Conditions: headers that fit, what the package's variable holds.
-/
import Derived.Test.YtfaomejdoljfnaaDoorHdrP
import Derived.Test.YtfaomejdoljfnaaDoorWlkH
import Derived.Test.YtfaomejdoljfnaaDoorSay
import Derived.Test.YtfaomejdoljfnaaDoorTwo
import Derived.Test.YtfaomejdoljfnaaDoorOpn4
import Derived.Deep.RegionHeld3
namespace Go.Proofs
theorem Tryd.twoH : (Tryd.prog.info? 24).map (fun i => (i.zero, i.size, i.bytes)) = some (some (.agg #[.string ByteArray.empty, .string ByteArray.empty]), 2, 32) := by kernel_rfl
end Go.Proofs
namespace Go.Proofs.YtfaomejdoljfnaaDoor
open Go.RowKit

theorem two_hdr : TwoT 22 24 := ⟨Tryd.underlying22, Tryd.twoH⟩
def hp (h : Hdr) : Pair := (h.name, h.val)
theorem HdrsAt.two {w : World} {v : Value} {l : List Hdr} (h : HdrsAt w v l) : TwoAt w v (l.map hp) := by
  obtain ⟨a, cap, h1, h2, h3, h4⟩ := h
  refine ⟨a, cap, by simpa using h1, by simpa using h2, fun p hq => ?_, ?_⟩
  · obtain ⟨x, hx, rfl⟩ := List.mem_map.1 hq
    exact h3 x hx
  · rcases h4 with rfl | ⟨b, off, e, hb, hc⟩
    · exact .inl rfl
    · refine .inr ⟨b, off, e, hb, fun i hi => ?_⟩
      simp only [List.length_map] at hi
      simpa [hp] using hc i hi
theorem TwoAt.hdrs {w : World} {v : Value} {l : List Hdr} (h : TwoAt w v (l.map hp)) : HdrsAt w v l := by
  obtain ⟨a, cap, h1, h2, h3, h4⟩ := h
  refine ⟨a, cap, by simpa using h1, by simpa using h2, fun x hx => h3 (hp x) (List.mem_map_of_mem hx), ?_⟩
  rcases h4 with h4 | ⟨b, off, e, hb, hc⟩
  · exact .inl (List.map_eq_nil_iff.1 h4)
  · refine .inr ⟨b, off, e, hb, fun i hi => ?_⟩
    have := hc i (by simpa using hi)
    simpa [hp] using this
theorem hdrs_plain {l : List Hdr} (h1 : l.length ≤ 16) (h2 : ∀ h ∈ l, h.val.length ≤ 4000) : hdrsL l = if 16 < (hdrsAll l).length then none else some (hdrsAll l) := by
  unfold hdrsL
  rw [if_neg (by omega), if_neg]
  intro h
  obtain ⟨x, hx, hd⟩ := List.any_eq_true.1 h
  have := h2 x hx
  simp at hd
  omega
theorem hdrs_snoc (l : List Hdr) (h : Hdr) : hdrsAll (l ++ [h]) = hdrsAll l ++ hdrPols h := by simp [hdrsAll]
theorem hdrs_x (n v : List UInt8) (hv : v.length ≤ 4000) : hdrsL [⟨120 :: 45 :: n, v⟩] = some [] := by
  have e : hdrPols ⟨120 :: 45 :: n, v⟩ = [] := by
    unfold hdrPols
    have e1 : lowL (120 :: 45 :: n) = 120 :: 45 :: lowL n := rfl
    simp only [e1, enfL, repL]
    rw [if_neg (by intro h; simp at h), if_neg (by intro h; simp at h)]
  rw [hdrs_plain (by simp) (by simpa using hv)]
  simp [hdrsAll, e]
/-- What Headers gives, in one form. -/
def HdrOne (o : Option (List Pol)) (w : World) (e : Ending) (w' : World) : Prop :=
  ∃ a k c n, e = .returned (.tuple #[.slice a k c, .int .i64 n]) ∧ Ext w w' ∧ ((n = 3 ∧ o = none) ∨ (n = 0 ∧ ∃ L, o = some L ∧ L.length = k ∧ k ≤ c ∧ PolsAt w' (.slice a k c) L))
theorem HdrResC.one {o : Option (List Pol)} {w w' : World} {e : Ending} (h : HdrResC o w e w') : HdrOne o w e w' := by
  cases o with
  | none => exact ⟨none, 0, 0, 3, h.1, h.2, .inl ⟨rfl, rfl⟩⟩
  | some L =>
    obtain ⟨x, e, p, hc, x1⟩ := h
    have p2 := p
    obtain ⟨a, c, rfl, _⟩ := p2.cells
    exact ⟨a, L.length, c, 0, e, x1, .inr ⟨rfl, L, rfl, rfl, hc, p⟩⟩
theorem HdrOne.empty {w w' : World} {e : Ending} (h : HdrOne (some []) w e w') : ∃ a c, e = .returned (.tuple #[.slice a 0 c, .int .i64 0]) ∧ Ext w w' := by
  obtain ⟨a, k, c, n, e1, x1, h | ⟨rfl, L, h, k1, _, _⟩⟩ := h
  · cases h.2
  · cases h
    cases k1
    exact ⟨a, c, e1, x1⟩
theorem PolsAt.front {w : World} {a : Option Addr} {n c : Nat} {A more : List Pol} (h : PolsAt w (.slice a n c) (A ++ more)) : PolsAt w (.slice a A.length c) A := by
  obtain ⟨a', c', us, e, h2, h3, h4⟩ := h
  simp only [Value.slice.injEq] at e
  obtain ⟨rfl, _, rfl⟩ := e
  refine ⟨a, c, us, rfl, by simp at h2; omega, fun i hi => ?_, ?_⟩
  · have := h3 i (by simp; omega)
    rwa [List.getElem_append_left hi] at this
  · rcases h4 with h4 | ⟨b, off, e, hb, hc⟩
    · exact .inl (List.append_eq_nil_iff.1 h4).1
    · refine .inr ⟨b, off, e, hb, fun i hi => ?_⟩
      have := hc i (by simp; omega)
      rwa [List.getElem_append_left hi] at this
/-- 'append(nil, headers...)', at a step of a region that draws. -/
theorem step_app_from {ops : Array Oper} {o : Oper} {a : Act} {K : Act → World → Prop} {Q : Exit → Act → World → Prop} {E : Prop} {w : World} (hgd : o.guard = none) (x : Operand)
    (ho : o.op = .call { callee := .builtin .append, args := #[.const (.slice none 0 0), x], argTypes := #[22, 22] })
    (B : Nat) {u : Value} {m : List Hdr} (hx : a.eval x = u) (hu : HdrsAt w u m) (hlen : m.length ≤ 1000000) (hbase : B ≤ w.heap.size)
    (h : ∀ v' w', Own2 24 B v' (m.map hp) w' → Ext w w' → K (a.put o.dst v') w') :
    if Region.wanted o (yielded ops a.tmps) = true then Oper.wp Tryd.prog o a w K Q else E :=
  step_app_two two_hdr hgd _ x ho rfl hx (Own2.nil _ B w) hu.two (by simp; omega) hbase fun v' w' h1 h2 => h v' w' (by simpa using h1) ⟨h2.os, h2.tape, h2.output, h2.size, fun i hi => h2.block i hi (by show some i ≠ none; simp)⟩
/-- 'append(headers, one)', at a step of a region that draws. -/
theorem step_app_more {ops : Array Oper} {o : Oper} {a : Act} {K : Act → World → Prop} {Q : Exit → Act → World → Prop} {E : Prop} {w : World} (hgd : o.guard = none) (s x : Operand)
    (ho : o.op = .call { callee := .builtin .append, args := #[s, x], argTypes := #[22, 22] })
    {B : Nat} {v : Value} {l : List Hdr} {h0 : Hdr} (g : Nat) (hs : a.eval s = v) (hx : a.eval x = .slice (some ⟨g, 0, none⟩) 1 1) (hg : w.heap[g]? = some (.cells #[.string ⟨⟨h0.name⟩⟩, .string ⟨⟨h0.val⟩⟩] 24))
    (hn : h0.name.length ≤ 1000000 ∧ h0.val.length ≤ 1000000) (hown : Own2 24 B v (l.map hp) w) (hl : l.length ≤ 1000000 ∧ ∀ h ∈ l, h.name.length ≤ maxLen ∧ h.val.length ≤ maxLen) (hbase : B ≤ w.heap.size)
    (h : ∀ v' w', HdrsAt w' v' (l ++ [h0]) → Below B w w' → K (a.put o.dst v') w') :
    if Region.wanted o (yielded ops a.tmps) = true then Oper.wp Tryd.prog o a w K Q else E :=
  step_app_two two_hdr hgd s x ho hs hx hown (TwoAt.one (p := hp h0) hg rfl rfl (by unfold maxLen hp; simp; omega) (by unfold maxLen hp; simp; omega)) (by simp; omega) hbase fun v' w' h1 h2 => h v' w' (TwoAt.hdrs (by
    have h3 := Own2.two h1 (by unfold maxLen; simp; omega) (by
      intro p hq
      rcases List.mem_append.1 hq with hq | hq
      · obtain ⟨y, hy, rfl⟩ := List.mem_map.1 hq
        exact hl.2 y hy
      · simp at hq
        subst hq
        unfold hp maxLen
        constructor <;> simp <;> omega)
    simpa [hp] using h3)) (below_grown (Below.refl _ _) hbase hown h2)
set_option maxHeartbeats 8000000 in
set_option maxRecDepth 100000 in
theorem more_walk (v : Value) (l : List Hdr) (n u : List UInt8) (w : World) (hm : MaxIs w) (H : HdrsAt w v l) :
    Calls Tryd.prog 3 #[v, .agg #[.string ⟨⟨n⟩⟩, .string ⟨⟨u⟩⟩]] w fun e w' => e = .returned (.bool true) ∧ Ext w w' := by
  have hlm : l.length ≤ 9223372036854775807 ∧ ∀ h ∈ l, h.name.length ≤ 9223372036854775807 ∧ h.val.length ≤ 9223372036854775807 := by obtain ⟨_, _, _, h1, h2, _⟩ := H; exact ⟨h1, h2⟩
  obtain ⟨hl1, hl2⟩ := hlm
  have x0 : Ext w (w.alloc (.cells #[.string ⟨⟨n⟩⟩, .string ⟨⟨u⟩⟩] 24)) := (Below.refl _ _).alloc (Nat.le_refl _) _
  have hm0 := hm.ext x0
  have H0 := H.ext x0
  obtain ⟨a, cap, rfl, hcl⟩ := H0.cells
  have HC := Lib.hid hcl
  have HL2 := Lib.hid hl2
  clear hcl hl2
  by_cases g1 : 8 < l.length
  · go_enter Tryd.func3, Tryd.ntmps3
    go_wp2_with (go_at_call 4; refine (says_any _ hm0).mono ?_; rintro e w1 ⟨rfl, x1⟩)
    go_ret
    exact ⟨rfl, Ext.trans x0 x1⟩
  · by_cases g2 : 60 < n.length
    · go_enter Tryd.func3, Tryd.ntmps3
      go_wp2_with (go_at_call 4; refine (says_any _ hm0).mono ?_; rintro e w1 ⟨rfl, x1⟩)
      go_ret
      exact ⟨rfl, Ext.trans x0 x1⟩
    · by_cases g3 : 300 < u.length
      · go_enter Tryd.func3, Tryd.ntmps3
        go_wp2_with (go_at_call 4; refine (says_any _ hm0).mono ?_; rintro e w1 ⟨rfl, x1⟩)
        go_ret
        exact ⟨rfl, Ext.trans x0 x1⟩
      · go_enter Tryd.func3, Tryd.ntmps3
        go_wp2_with fail
        go_loop [5] (fun i => ∃ k : Nat, i = .int .i64 k ∧ k ≤ l.length ∧ Hid (∀ j (hj : j < l.length), j < k → l[j].name.length ≤ 60 ∧ l[j].val.length ≤ 300)) (fun i => l.length - (intOf i).toNat)
        case atStart => exact ⟨0, rfl, by omega, Lib.hid (fun j _ hj => by omega)⟩
        case round =>
          obtain ⟨k, rfl, hk, HN⟩ := hrel
          have k0 : (0 : Int) ≤ (k : Int) := by omega
          by_cases hlt : k < l.length
          · obtain ⟨b, off, rfl, hb, c1, c2⟩ := HC.out k hlt
            obtain ⟨m1, m2⟩ := HL2.out l[k] (List.getElem_mem hlt)
            obtain ⟨h, hh⟩ : ∃ h, l[k] = h := ⟨_, rfl⟩
            have HH := Lib.hid hh
            rw [hh] at c1 c2 m1 m2
            have k1 : (k : Int) < (l.length : Int) := by omega
            clear hh
            by_cases q1 : 60 < h.name.length
            · go_wp2_with (go_at_call 4; refine (says_any _ hm0).mono ?_; rintro e w1 ⟨rfl, x1⟩)
              go_ret
              exact ⟨rfl, Ext.trans x0 x1⟩
            · by_cases q2 : 300 < h.val.length
              · go_wp2_with (go_at_call 4; refine (says_any _ hm0).mono ?_; rintro e w1 ⟨rfl, x1⟩)
                go_ret
                exact ⟨rfl, Ext.trans x0 x1⟩
              · have HK : Hid (∀ j (hj : j < l.length), j < k + 1 → l[j].name.length ≤ 60 ∧ l[j].val.length ≤ 300) := Lib.hid (fun j hj hjk => by
                  by_cases e : j = k
                  · subst e; rw [HH.out]; omega
                  · exact HN.out j hj (by omega))
                go_wp2_with fail
                go_round
                case rel => exact ⟨k + 1, by go_num, by omega, HK⟩
                case measure => simp [intOf]; omega
          · obtain rfl : k = l.length := by omega
            have hall : ∀ h ∈ l, h.name.length ≤ 60 ∧ h.val.length ≤ 300 := fun h hm => by
              obtain ⟨j, hj, rfl⟩ := List.getElem_of_mem hm
              exact HN.out j hj hj
            have hok : HdrOk l := ⟨by omega, fun h hm => by have := hall h hm; omega⟩
            have hok2 : HdrOk (l ++ [⟨n, u⟩]) := ⟨by simp; omega, fun h hm => by
              rcases List.mem_append.1 hm with hm | hm
              · have := hall h hm; omega
              · simp at hm; subst hm; simp; omega⟩
            have hok3 : HdrOk [⟨120 :: 45 :: n, u⟩] := ⟨by simp, fun h hm => by simp at hm; subst hm; simp; omega⟩
            have HA := Lib.hid (hdrs_plain (l := l) (by omega) (fun h hm => by have := hall h hm; omega))
            have HB := Lib.hid (hdrs_plain (l := l ++ [⟨n, u⟩]) (by simp; omega) (fun h hm => by
              rcases List.mem_append.1 hm with hm | hm
              · have := hall h hm; omega
              · simp at hm; subst hm; simp; omega))
            have hl3 : l.length ≤ 1000000 ∧ ∀ h ∈ l, h.name.length ≤ maxLen ∧ h.val.length ≤ maxLen := ⟨by omega, fun h hm => by have := hall h hm; unfold maxLen; omega⟩
            have c1 := (headers_own _ l _ hm0 H0 hok).mono (fun _ _ h => h.one)
            have c2 := fun V W (hW : MaxIs W) (hH : HdrsAt W V (l ++ [⟨n, u⟩])) => (headers_own V _ W hW hH hok2).mono (fun _ _ h => h.one)
            have c3 := fun V W (hW : MaxIs W) (hH : HdrsAt W V [⟨120 :: 45 :: n, u⟩]) => (headers_own V _ W hW hH hok3).mono (fun _ _ h => h.one)
            rw [hdrs_x n u (by omega)] at c3
            obtain ⟨A, hAe⟩ : ∃ A, hdrsL l = A := ⟨_, rfl⟩
            obtain ⟨B, hBe⟩ : ∃ B, hdrsL (l ++ [⟨n, u⟩]) = B := ⟨_, rfl⟩
            rw [hAe] at c1 HA
            rw [hBe] at c2 HB
            have s0 : (w.alloc (.cells #[.string ⟨⟨n⟩⟩, .string ⟨⟨u⟩⟩] 24)).cell? ⟨w.heap.size, 0, none⟩ = some (.string ⟨⟨n⟩⟩) := cells_of_lit (heap_alloc_new w (.cells #[.string ⟨⟨n⟩⟩, .string ⟨⟨u⟩⟩] 24)) 0
            have s1 : (w.alloc (.cells #[.string ⟨⟨n⟩⟩, .string ⟨⟨u⟩⟩] 24)).cell? ⟨w.heap.size, 1, none⟩ = some (.string ⟨⟨u⟩⟩) := cells_of_lit (heap_alloc_new w (.cells #[.string ⟨⟨n⟩⟩, .string ⟨⟨u⟩⟩] 24)) 1
            clear hok hok2 hok3 hall HN HL2 hAe hBe
            go_upto_region 9 with (go_at_call 5; refine c1.mono ?_; rintro e w1 ⟨aa, ka, ca, na, rfl, x1, R1⟩)
            have m0 := old_cell2 x1 s0
            have m1 := old_cell2 x1 s1
            have hb1 : w.heap.size < w1.heap.size := cell_lt m0
            have H1 := H0.ext x1
            have hm1 := hm0.ext x1
            clear s0 s1 c1
            go_region_held3 (fun w' => w'.cell? ⟨w.heap.size, 0, none⟩ = some (.string ⟨⟨n⟩⟩) ∧ w'.cell? ⟨w.heap.size, 1, none⟩ = some (.string ⟨⟨u⟩⟩)) (go_keep)
              (first
                | (refine step_app_from rfl _ rfl w1.heap.size rfl (H1.ext (by repeat (first | with_reducible exact Below.refl _ _ | with_reducible assumption | with_reducible refine Below.drew ?_ | with_reducible refine Below.alloc ?_ (by first | exact Nat.le_refl _ | omega | (simp; done) | (simp; omega)) _))) (by omega) (by first | exact Nat.le_refl _ | (simp; done) | (simp; omega)) ?_; intro v4 w4 hown4 y4; have z4 : Ext w1 w4 := Ext.trans (by repeat (first | with_reducible exact Below.refl _ _ | with_reducible assumption | with_reducible refine Below.drew ?_ | with_reducible refine Below.alloc ?_ (by first | exact Nat.le_refl _ | omega | (simp; done) | (simp; omega)) _)) y4; have n0 := old_cell2 z4 m0; have n1 := old_cell2 z4 m1; have hs4 := z4.size)
                | (refine step_app_more rfl _ _ rfl (l := l) (h0 := ⟨n, u⟩) _ rfl rfl (by first | exact heap_alloc_new _ _ | exact (y4.block _ (lt_of_block (heap_alloc_new _ _))).trans (heap_alloc_new _ _)) (by constructor <;> (simp; omega)) (hown4.ext (by repeat (first | with_reducible exact Below.refl _ _ | with_reducible assumption | with_reducible refine Below.drew ?_ | with_reducible refine Below.alloc ?_ (by first | exact Nat.le_refl _ | omega | (simp; done) | (simp; omega)) _))) hl3 (by first | exact hs4 | (simp; omega)) ?_; intro v5 w5 H5 y5; have z5 : Ext w1 w5 := Below.trans (Ext.trans z4 (by repeat (first | with_reducible exact Below.refl _ _ | with_reducible assumption | with_reducible refine Below.drew ?_ | with_reducible refine Below.alloc ?_ (by first | exact Nat.le_refl _ | omega | (simp; done) | (simp; omega)) _))) y5; have p0 := old_cell2 z5 m0; have p1 := old_cell2 z5 m1)
                | (go_at_call 5; refine (c2 _ _ (hm1.ext z5) H5).mono ?_; rintro e w6 ⟨ab, kb, cb, nb, rfl, x6, R2⟩; have z6 : Ext w1 w6 := Ext.trans z5 x6; have q0 := old_cell2 z6 m0; have q1 := old_cell2 z6 m1))
            all_goals
              have hl4 : (2 : Int) + (n.length : Int) ≤ 9223372036854775807 := by omega
              rcases R1 with ⟨rfl, e1⟩ | ⟨rfl, LA, e1, k1, _, P1⟩ <;> rcases R2 with ⟨rfl, e2⟩ | ⟨rfl, LB, e2, k2, hcap, P2⟩
            all_goals
              first
              | (have hcon : False := by
                  have hA := HA.out
                  have hB := HB.out
                  rw [e1] at hA
                  rw [e2, hdrs_snoc] at hB
                  split at hA
                  · rw [if_pos (by rw [List.length_append]; omega)] at hB
                    cases hB
                  · cases hA
                 exact hcon.elim)
              | (have hcat : ∃ more, LB = LA ++ more := by
                  have hA := HA.out
                  have hB := HB.out
                  rw [e1] at hA
                  rw [e2, hdrs_snoc] at hB
                  split at hA
                  · cases hA
                  · cases hA
                    split at hB
                    · cases hB
                    · cases hB
                      exact ⟨_, rfl⟩
                 obtain ⟨more, rfl⟩ := hcat
                 subst k1 k2
                 rw [List.length_append] at hcap
                 have P2' := P2.front
                 rw [List.length_append] at P2
                 have q1 : (LA.length : Int) ≤ (LA.length : Int) + (more.length : Int) := by omega
                 have q2 : (LA.length : Int) ≤ (cb : Int) := by omega
                 have q3 : (0 : Int) ≤ (LA.length : Int) := by omega
                 have q4 : LA.length ≤ cb := by omega
                 have HF := Lib.hid P2'
                 have HG := Lib.hid (P1.ext (Ext.trans z5 x6))
                 clear P1 P2 P2' c2
                 go_wp2_with (first
                   | (go_at_call 5; refine (c3 _ _ ((hm1.ext z6).ext ((Below.refl _ _).alloc (Nat.le_refl _) _)) (TwoAt.hdrs (l := [⟨120 :: 45 :: n, u⟩]) (TwoAt.one (p := (120 :: 45 :: n, u)) (heap_alloc_new _ _) rfl rfl (by unfold maxLen; simp; omega) (by unfold maxLen; simp; omega)))).mono ?_; rintro e w7 R3; have R3 := R3.empty; obtain ⟨ac, cc, rfl, x7⟩ := R3; have z7 : Ext w1 w7 := Ext.trans (z6.alloc z6.size _) x7)
                   | (go_at_call 6; refine (all_true _ _ LA _ (HF.out.ext (Ext.trans ((Below.refl _ _).alloc (Nat.le_refl _) _) x7)) (HG.out.ext (Ext.trans ((Below.refl _ _).alloc (Nat.le_refl _) _) x7))).mono ?_; rintro e w8 ⟨rfl, x8⟩; have z8 := Ext.trans z7 x8)
                   | (go_at_call 4; refine (says_any _ (hm1.ext z8)).mono ?_; rintro e w9 ⟨rfl, x9⟩))
                 go_ret
                 exact ⟨rfl, Ext.trans (Ext.trans (Ext.trans x0 x1) z8) x9⟩)
              | (clear c2
                 go_wp2_with (first
                   | (go_at_call 5; refine (c3 _ _ ((hm1.ext z6).ext ((Below.refl _ _).alloc (Nat.le_refl _) _)) (TwoAt.hdrs (l := [⟨120 :: 45 :: n, u⟩]) (TwoAt.one (p := (120 :: 45 :: n, u)) (heap_alloc_new _ _) rfl rfl (by unfold maxLen; simp; omega) (by unfold maxLen; simp; omega)))).mono ?_; rintro e w7 R3; have R3 := R3.empty; obtain ⟨ac, cc, rfl, x7⟩ := R3; have z7 : Ext w1 w7 := Ext.trans (z6.alloc z6.size _) x7)
                   | (go_at_call 4; refine (says_any _ (hm1.ext z7)).mono ?_; rintro e w8 ⟨rfl, x8⟩))
                 go_ret
                 exact ⟨rfl, Ext.trans (Ext.trans (Ext.trans x0 x1) z7) x8⟩)
theorem more_walkP (v x : Value) (l : List Hdr) (p : Pair) (w : World) (hm : MaxIs w) (H : HdrsAt w v l) (e : x = .agg #[.string ⟨⟨p.1⟩⟩, .string ⟨⟨p.2⟩⟩]) :
    Calls Tryd.prog 3 #[v, x] w fun e w' => e = .returned (.bool true) ∧ Ext w w' := by
  subst e
  exact more_walk v l p.1 p.2 w hm H
open Go.ChangeShapes Go.WideShapes Go.Deep Go.ChangeAt in
set_option maxRecDepth 100000 in
theorem open_hdr {H : Type} {enc : TypeId × Value → H} {w : World} {v : Value} {d : DataW H} {ps : List MemPlace} (hv : Value.okWide Tryd.prog w .any 0 24 v) (h : DataW.Trod enc Tryd.prog w 0 (fun _ => true) true 24 v d ps) : ∃ p : Pair, v = .agg #[.string ⟨⟨p.1⟩⟩, .string ⟨⟨p.2⟩⟩] := by
  obtain ⟨v0, v1, y0, y1, n, rfl, _, _, t0, t1⟩ := Go.Joins.open_agg2 Tryd.underlying24 (by kernel_rfl) (by kernel_rfl) hv h
  obtain ⟨s, hs, _⟩ := DataW.trod_string Tryd.underlying9 t0
  obtain ⟨t, ht, _⟩ := DataW.trod_string Tryd.underlying9 t1
  simp only [List.cons.injEq, and_true] at hs ht
  subst hs ht
  exact ⟨(s.data.toList, t.data.toList), rfl⟩
end Go.Proofs.YtfaomejdoljfnaaDoor
