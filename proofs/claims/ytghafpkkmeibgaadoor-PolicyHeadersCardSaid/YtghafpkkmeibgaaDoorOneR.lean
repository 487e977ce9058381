/-
  What is proved: the reference's cutting at a byte, its directives of a text, its policies of a header's value: contracts. Condition: texts of at most 100000 bytes.
-/
import Derived.Test.YtghafpkkmeibgaaDoorPls
import Derived.Test.YtghafpkkmeibgaaDoorAscR
import Derived.Test.YtghafpkkmeibgaaDoorAtF
import Derived.Deep.RegionHeldLaw
import Derived.Deep.AppendLies
namespace Go.Proofs.YtghafpkkmeibgaaDoor
open Go.RowKit

set_option maxHeartbeats 4000000 in
theorem part_any (l : List UInt8) (c : UInt8) (w : World) (hl : l.length < 100000) :
    Calls Tryd.prog 56 #[.string ⟨⟨l⟩⟩, .int .u8 c.toNat] w fun e w' => ∃ v, e = .returned v ∧ OwnS w.heap.size v (splitL c l) w' ∧ Ext w w' := by
  have hcl := c.toNat_lt
  go_enter Tryd.func56, Tryd.ntmps56
  go_wp2_with fail
  go_loopw [5, 6, 7] (fun v f i wr => ∃ (k q : Nat) (out : List (List UInt8)), i = .int .i64 k ∧ f = .int .i64 q ∧ q ≤ k ∧ k ≤ l.length ∧ out.length ≤ k ∧ OwnS w.heap.size v out wr ∧ Ext w wr ∧ Hid (PartAt c l out q k)) (fun _ _ i _ => l.length - (intOf i).toNat)
  case atStart => exact ⟨0, 0, [], rfl, rfl, by omega, by omega, by simp, OwnS.nil _ _, Ext.refl _, Lib.hid (PartAt.start c l)⟩
  case round =>
    obtain ⟨k, q, out, rfl, rfl, hqk, hk, ho, hown, hx, HF⟩ := hrel
    have hws := hx.size
    by_cases hlt : k < l.length
    · obtain ⟨x, hxx⟩ : ∃ x, l[k] = x := ⟨_, rfl⟩
      have hxl := x.toNat_lt
      have k0 : (0 : Int) ≤ (k : Int) := by omega
      have k1 : (k : Int) < (l.length : Int) := by omega
      have q0 : (0 : Int) ≤ (q : Int) := by omega
      have q1 : (q : Int) ≤ (k : Int) := by omega
      by_cases he : x = c
      · subst he
        have HN : Hid (PartAt x l (out ++ [cutL l q k]) (k + 1) (k + 1)) := Lib.hid (HF.out.hit hlt hxx)
        have e1 : ((x.toNat : Int) == (x.toNat : Int)) = true := by simp
        go_wp2_with (at_builtin; refine app_str rfl _ _ rfl (cutL l q k) _ wr rfl rfl rfl hown rfl (by omega) hws ?_; intro v4 w4 hown4 y4)
        go_roundw
        case rel => exact ⟨k + 1, k + 1, out ++ [cutL l q k], by go_num, by go_num, by omega, by omega, by simp; omega, hown4, Below.trans hx y4, HN⟩
        case measure => simp [intOf]; omega
      · have HN : Hid (PartAt c l out q (k + 1)) := Lib.hid (HF.out.miss hlt (by rw [hxx]; exact he))
        have e1 : ((x.toNat : Int) == (c.toNat : Int)) = false := u8_beq.trans (beq_eq_false_iff_ne.2 he)
        clear he
        go_wp2_with fail
        go_roundw
        case rel => exact ⟨k + 1, q, out, by go_num, rfl, by omega, by omega, by omega, hown, hx, HN⟩
        case measure => simp [intOf]; omega
    · obtain rfl : k = l.length := by omega
      have HL := Lib.hid HF.out.last
      have HC : Hid (List.drop q l = cutL l q l.length) := Lib.hid (by unfold cutL; rw [List.take_of_length_le (by simp)])
      have q0 : (0 : Int) ≤ (q : Int) := by omega
      have q1 : (q : Int) ≤ (l.length : Int) := by omega
      go_wp2_with (at_builtin; refine app_str rfl _ _ rfl (cutL l q l.length) _ wr rfl rfl (by rw [HC.out]) hown rfl (by omega) hws ?_; intro v4 w4 hown4 y4)
      go_ret
      exact ⟨_, rfl, by rw [← HL.out]; exact hown4, Below.trans hx y4⟩
theorem fieldsR_none (l : List UInt8) (w : World) (hl : l.length < 100000) (h : fieldsL l = []) :
    Calls Tryd.prog 39 #[.string ⟨⟨l⟩⟩] w fun e w' => ∃ a cap, e = .returned (.slice a 0 cap) ∧ Ext w w' := by
  refine (fieldsR_any l w hl).mono ?_
  rintro e w' ⟨v, rfl, hown, hx⟩
  rw [h] at hown
  rcases hown.2 with ⟨rfl, _⟩ | ⟨g, cap, cur, rfl, _⟩
  · exact ⟨_, _, rfl, hx⟩
  · exact ⟨_, _, rfl, hx⟩
theorem fieldsR_some (l : List UInt8) (w : World) (hl : l.length < 100000) (x : List UInt8) (xs : List (List UInt8)) (h : fieldsL l = x :: xs) :
    Calls Tryd.prog 39 #[.string ⟨⟨l⟩⟩] w fun e w' => ∃ g cap, e = .returned (.slice (some ⟨g, 0, none⟩) (xs.length + 1) (cap + 1)) ∧ xs.length ≤ cap ∧ cap + 1 ≤ maxLen ∧ w'.cell? ⟨g, 0, none⟩ = some (.string ⟨⟨x⟩⟩) ∧ g < w'.heap.size ∧ StrsB w' (.slice (some ⟨g, 0, none⟩) (xs.length + 1) (cap + 1)) (x :: xs) ∧ Ext w w' := by
  refine (fieldsR_any l w hl).mono ?_
  rintro e w' ⟨v, rfl, hown, hx⟩
  have hc := fields_count l
  have he := fields_each l
  rw [h] at hown hc he
  have hsb := hown.strsB (by unfold maxLen; omega) (fun s hs => by have := he s hs; unfold maxLen; omega)
  rcases hown.2 with ⟨rfl, h0⟩ | ⟨g, cap, cur, rfl, _, hg, hn, hm, _⟩
  · simp at h0
  · obtain ⟨c, rfl⟩ : ∃ c, cap = c + 1 := ⟨cap - 1, by simp at hn; omega⟩
    refine ⟨g, c, rfl, by simpa using hn, hm, ?_, lt_of_block hg, hsb, hx⟩
    obtain ⟨a, cap, e1, _, _, e4⟩ := hsb.strs
    rcases e4 with e4 | ⟨b, off, rfl, _, hcell⟩
    · cases e4
    · simp only [Value.slice.injEq, Option.some.injEq, Addr.mk.injEq, and_true] at e1
      obtain ⟨⟨rfl, rfl⟩, _⟩ := e1
      exact hcell 0 (by simp)
theorem StrsB.blk {w : World} {b off n cap : Nat} {x : List UInt8} {l : List (List UInt8)} (h : StrsB w (.slice (some ⟨b, off, none⟩) n cap) (x :: l)) : ∃ cs fz, w.heap[b]? = some (.cells cs 9 fz) := by
  obtain ⟨a, c, e, _, _, h4⟩ := h
  rcases h4 with h4 | ⟨b', off', cs, fz, e2, hb, _⟩
  · cases h4
  · subst e2
    simp only [Value.slice.injEq, Option.some.injEq, Addr.mk.injEq, and_true] at e
    obtain ⟨⟨rfl, rfl⟩, _⟩ := e
    exact ⟨cs, fz, hb⟩
/-- 'append(b, Directive{..})' at a step of a region that draws its order. -/
theorem step_app_dir {ops : Array Oper} {o : Oper} {a : Act} {K : Act → World → Prop} {Q : Exit → Act → World → Prop} {E : Prop} {w : World} (hgd : o.guard = none) (s x : Operand)
    (ho : o.op = .call { callee := .builtin .append, args := #[s, x], argTypes := #[23, 23] })
    {B : Nat} {v : Value} {l : List Dir} (d : Dir) (n : ByteArray) (u : Value) (W : World) (hs : a.eval s = v) (hw : w = W.alloc (.cells #[.string n, u] 38)) (hn : n = ⟨⟨d.name⟩⟩) (hown : OwnD B v l W) (hu : StrsB W u d.vals) (hnl : d.name.length ≤ maxLen)
    (hx : a.eval x = .slice (some ⟨W.heap.size, 0, none⟩) 1 1) (hlen : l.length + 1 ≤ 1000000000) (hbase : B ≤ W.heap.size)
    (h : ∀ (g cap : Nat) (w' : World), OwnD B (.slice (some ⟨g, 0, none⟩) (l.length + 1) cap) (l ++ [d]) w' → Below B W w' → (∀ (b : Nat) (cs : Array Value) (fz : Nat × Nat), W.heap[b]? = some (Obj.cells cs 9 fz) → w'.heap[b]? = W.heap[b]?) → K (a.put o.dst (.slice (some ⟨g, 0, none⟩) (l.length + 1) cap)) w') :
    if Region.wanted o (yielded ops a.tmps) = true then Oper.wp Tryd.prog o a w K Q else E := by
  obtain ⟨i0, hi, hz0, hz1, hz2⟩ := info_parts Tryd.infoDir
  obtain ⟨ps, rfl, h2, h3, h4⟩ := hown
  subst hn hw
  have hone : u.oneCell' = true := by
    obtain ⟨a', cap', e, _⟩ := hu
    subst e
    rfl
  have hps : (ps.map (·.1)).length = ps.length := by simp
  rw [hps] at hlen h
  have hr : ∀ g cs fz, v.ownBlock = some g → W.heap[g]? ≠ some (.cells cs 9 fz) := by
    intro g cs fz hg he
    rcases h2.2 with ⟨rfl, _⟩ | ⟨g', cap, cur, rfl, _, hh, _⟩
    · simp [Value.ownBlock] at hg
    · simp [Value.ownBlock] at hg
      subst hg
      rw [hh] at he
      simp at he
  refine step_append_lies _ hgd s x 23 ho B 38 i0 _ 2 40 Tryd.underlying23 hi hz0 hz1 hz2 rfl (by decide) v ps.length (dirCells ps) hs (World.ownsRow.alloc h2 _) ⟨W.heap.size, 0, none⟩ 1 1 [.string ⟨⟨d.name⟩⟩, u] hx rfl (World.news_of_block (heap_alloc_new W _)) ?_ (by decide) (by unfold maxLen; omega) (by omega) (by simp; omega) _ rfl ?_
  · intro y hy
    simp at hy
    rcases hy with rfl | rfl
    · rfl
    · exact hone
  · intro g cap w' g1 g2 _ _
    have g3 := grown_trans_alloc g2
    refine h g cap w' ⟨ps ++ [(d, u)], by simp, ?_, ?_, ?_⟩ (below_grown (Below.refl _ _) hbase h2 g3) (fun b cs fz hb => g3.block b (lt_of_block hb) (fun e => hr b cs fz e.symm hb))
    · rw [dirCells_app, List.length_append]
      exact g1
    · intro p hp
      rcases List.mem_append.1 hp with hp | hp
      · exact (h3 p hp).grown g3 hr
      · simp at hp
        subst hp
        exact hu.grown g3 hr
    · intro e he
      rcases List.mem_append.1 he with he | he
      · exact h4 e he
      · simp at he
        subst he
        exact hnl
set_option maxHeartbeats 4000000 in
set_option maxRecDepth 100000 in
theorem oneR_any (l : List UInt8) (w : World) (hl : l.length < 100000) :
    Calls Tryd.prog 20 #[.string ⟨⟨l⟩⟩] w fun e w' => ∃ v, e = .returned v ∧ OwnD w.heap.size v (oneL l) w' ∧ Ext w w' := by
  have hcount := split_count 59 l
  have heach := split_each 59 l
  have csplit := part_any l 59 w hl
  obtain ⟨P, hP⟩ : ∃ P, splitL 59 l = P := ⟨_, rfl⟩
  have HP := Lib.hid hP
  rw [hP] at hcount heach csplit
  have HE := Lib.hid heach
  have hstr : ∀ {v w'}, OwnS w.heap.size v P w' → StrsAt w' v P := fun h => h.strs (by unfold maxLen; omega) (fun s hs => by have := HE.out s hs; unfold maxLen; omega)
  clear hP heach
  go_enter Tryd.func20, Tryd.ntmps20
  go_wp2_with fail
  refine csplit.mono ?_
  rintro e w1 ⟨v, rfl, hsb, hx1⟩
  obtain ⟨a, cap, rfl, hcells⟩ := (hstr hsb).cells
  have HC := Lib.hid hcells
  clear hcells csplit hsb hstr
  go_wp2_with fail
  go_loopw [3, 5] (fun vs i wr => ∃ (k : Nat) (ds : List Dir), i = .int .i64 k ∧ k ≤ P.length ∧ OwnD w1.heap.size vs ds wr ∧ Hid (ds = (P.take k).foldl addD []) ∧ Ext w1 wr) (fun _ i _ => P.length - (intOf i).toNat)
  case atStart => exact ⟨0, [], rfl, by omega, OwnD.nil _ _, Lib.hid rfl, Ext.refl _⟩
  case round =>
    obtain ⟨k, ds, rfl, hk, hown, HD, hx⟩ := hrel
    by_cases hlt : k < P.length
    · obtain ⟨b, off, rfl, hb, hcell⟩ := HC.out k hlt
      have hcell := (hx.cell (p := ⟨b, off + k, none⟩) hb).trans hcell
      have hpl : P[k].length < 100000 := by have := HE.out _ (List.getElem_mem hlt); omega
      have HS : Hid ((P.take (k + 1)).foldl addD [] = addD ds P[k]) := Lib.hid (by rw [List.take_succ_eq_append_getElem hlt, List.foldl_append, HD.out]; rfl)
      have hdl : ds.length ≤ 100001 := by
        have := addD_fold_len (P.take k) []
        rw [← HD.out] at this
        simp at this
        omega
      obtain ⟨p, hp⟩ : ∃ p, P[k] = p := ⟨_, rfl⟩
      rw [hp] at hcell hpl HS
      have k0 : (0 : Int) ≤ (k : Int) := by omega
      have k1 : (k : Int) < (P.length : Int) := by omega
      clear hp
      cases hf : fieldsL p with
      | nil =>
        have HA := Lib.hid (addD_none (ds := ds) hf)
        have cf := fun W => fieldsR_none p W hpl hf
        clear hf
        go_wp2_with (go_at_call 39; refine (cf _).mono ?_; rintro e w2 ⟨a2, cap2, rfl, hx2⟩)
        go_roundw
        case rel => exact ⟨k + 1, ds, by go_num, by omega, hown.ext hx2, Lib.hid (by rw [HS.out, HA.out]), Ext.trans hx hx2⟩
        case measure => simp [intOf]; omega
      | cons x xs =>
        have cf := fun W => fieldsR_some p W hpl x xs hf
        have hxl : x.length < 100000 := by
          have := fields_each p x (by rw [hf]; simp)
          omega
        have hxsl : xs.length ≤ 100001 := by
          have := fields_count p
          rw [hf] at this
          simp at this
          omega
        have hI := named_has ds (lowL x)
        have clw := fun W => lowR_any x W hxl
        have hll := low_len hxl
        cases hh : hasD ds (lowL x)
        · have HA := Lib.hid (addD_new hf hh)
          rw [hh] at hI
          simp only [Bool.not_false] at hI
          clear hf hh
          go_wp2_with (go_at_call 39; refine (cf _).mono ?_; rintro e w2 ⟨g, cp, rfl, hcp, hcpm, hg0, hg, hsb2, hx2⟩)
          have hown2 := hown.ext hx2
          obtain ⟨oa, oc, rfl⟩ := hown2.len
          go_wp2_with (first
            | (go_at_call 34; refine (clw _).mono ?_; rintro e w3 ⟨rfl, hx3⟩; have hown3 := hown2.ext hx3; have hsb3 := hsb2.ext hx3; have hg3 := (hx3.cell (p := ⟨g, 0, none⟩) hg).trans hg0; have hgg := Nat.lt_of_lt_of_le hg hx3.size)
            | (go_at_call 57; refine (at_any _ ds (lowL x) _ (hown3.dirs (by unfold maxLen; omega)) (by omega)).mono ?_; rintro e w4 ⟨rfl, rfl⟩))
          obtain ⟨gcs, gfz, hgb⟩ := hsb3.blk
          rcases Nat.eq_zero_or_pos cp with hc0 | hc0
          · subst hc0
            obtain rfl : xs = [] := List.eq_nil_of_length_eq_zero (by omega)
            have hu3 : StrsB w3 (.slice (some ⟨g, 0, none⟩) 0 0) [] := hsb3.tail 0 (some ⟨g, 0, none⟩) (fun h => absurd rfl h)
            have gi0 : (0 : Int) ≤ 1 := by omega
            go_region_held_law (fun w' => w'.cell? ⟨g, 0, none⟩ = some (.string ⟨⟨x⟩⟩)) (first | go_keep)
              ((first
                | (go_at_call 34; refine (clw _).mono ?_; rintro e w5 ⟨rfl, hx5⟩; have hx35 : Ext w3 w5 := Ext.trans (by repeat (first | with_reducible exact Below.refl _ _ | with_reducible refine Below.drew ?_)) hx5; have hown5 := hown3.ext hx35; have hu5 := hu3.ext hx35; have hgb5 := (hx35.block g hgg).trans hgb; have hg5 := (hx35.cell (p := ⟨g, 0, none⟩) hgg).trans hg3; have := World.new_ne w5 _ hg5; have hbase := Nat.le_trans hx.size (Nat.le_trans hx2.size (Nat.le_trans hx3.size hx35.size)))
                | (refine step_app_dir rfl _ _ (by rfl) ⟨lowL x, []⟩ _ _ w5 (by rfl) (by rfl) (by rfl) hown5 hu5 hll (by rfl) (by omega) hbase ?_; intro ga gc w6 hown6 hx6 hk6; have hg6 := (World.cell?_of_block (a := ⟨g, 0, none⟩) (hk6 g gcs gfz hgb5)).trans hg5)))
            all_goals
              go_wp2_with fail
              go_roundw
              case rel => exact ⟨k + 1, _, by go_num, by omega, hown6, Lib.hid (by rw [HS.out, HA.out]), Below.trans (Ext.trans (Ext.trans (Ext.trans hx hx2) hx3) hx35) (hx6.mono (Nat.le_refl _))⟩
              case measure => simp [intOf]; omega
          · have hc1 : ¬ cp = 0 := by omega
            have hu3 := hsb3.tail cp (some ⟨g, 1, none⟩) (fun _ => rfl)
            have gi0 : (0 : Int) ≤ 1 := by omega
            go_region_held_law (fun w' => w'.cell? ⟨g, 0, none⟩ = some (.string ⟨⟨x⟩⟩)) (first | go_keep)
              ((first
                | (go_at_call 34; refine (clw _).mono ?_; rintro e w5 ⟨rfl, hx5⟩; have hx35 : Ext w3 w5 := Ext.trans (by repeat (first | with_reducible exact Below.refl _ _ | with_reducible refine Below.drew ?_)) hx5; have hown5 := hown3.ext hx35; have hu5 := hu3.ext hx35; have hgb5 := (hx35.block g hgg).trans hgb; have hg5 := (hx35.cell (p := ⟨g, 0, none⟩) hgg).trans hg3; have := World.new_ne w5 _ hg5; have hbase := Nat.le_trans hx.size (Nat.le_trans hx2.size (Nat.le_trans hx3.size hx35.size)))
                | (refine step_app_dir rfl _ _ (by rfl) ⟨lowL x, xs⟩ _ _ w5 (by rfl) (by rfl) (by rfl) hown5 hu5 hll (by rfl) (by omega) hbase ?_; intro ga gc w6 hown6 hx6 hk6; have hg6 := (World.cell?_of_block (a := ⟨g, 0, none⟩) (hk6 g gcs gfz hgb5)).trans hg5)))
            all_goals
              go_wp2_with fail
              go_roundw
              case rel => exact ⟨k + 1, _, by go_num, by omega, hown6, Lib.hid (by rw [HS.out, HA.out]), Below.trans (Ext.trans (Ext.trans (Ext.trans hx hx2) hx3) hx35) (hx6.mono (Nat.le_refl _))⟩
              case measure => simp [intOf]; omega
        · have HA := Lib.hid (addD_had hf hh)
          rw [hh] at hI
          simp only [Bool.not_true] at hI
          clear hf hh
          go_wp2_with (go_at_call 39; refine (cf _).mono ?_; rintro e w2 ⟨g, cp, rfl, hcp, hcpm, hg0, hg, hsb2, hx2⟩)
          have hown2 := hown.ext hx2
          obtain ⟨oa, oc, rfl⟩ := hown2.len
          go_wp2_with (first
            | (go_at_call 34; refine (clw _).mono ?_; rintro e w3 ⟨rfl, hx3⟩; have hown3 := hown2.ext hx3)
            | (go_at_call 57; refine (at_any _ ds (lowL x) _ (hown3.dirs (by unfold maxLen; omega)) (by omega)).mono ?_; rintro e w4 ⟨rfl, rfl⟩))
          go_roundw
          case rel => exact ⟨k + 1, ds, by go_num, by omega, hown3, Lib.hid (by rw [HS.out, HA.out]), Ext.trans (Ext.trans hx hx2) hx3⟩
          case measure => simp [intOf]; omega
    · obtain rfl : k = P.length := by omega
      go_wp2_with fail
      go_ret
      refine ⟨_, rfl, ?_, Ext.trans hx1 hx⟩
      have : ds = oneL l := by
        rw [HD.out, List.take_length]
        unfold oneL
        rw [HP.out]
      rw [← this]
      exact hown.mono hx1.size
end Go.Proofs.YtghafpkkmeibgaaDoor
