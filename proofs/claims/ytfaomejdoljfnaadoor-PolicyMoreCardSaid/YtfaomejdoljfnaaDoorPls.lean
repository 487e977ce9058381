/-
  What is proved: lists of policies (directives, a bool) as they stand in memory: what they read as, what one more makes of them. Condition: lengths that fit.
-/
import Derived.Test.YtfaomejdoljfnaaDoorPlcG
import Derived.Test.YtfaomejdoljfnaaDoorPolQ
namespace Go.Proofs
theorem Tryd.infoPol : (Tryd.prog.info? 36).map (fun i => (i.zero, i.size, i.bytes)) = some (some (.agg #[.slice none 0 0, .bool false]), 2, 32) := by kernel_rfl
end Go.Proofs
namespace Go.Proofs.YtfaomejdoljfnaaDoor
open Go.RowKit

structure Pol where
  ds : List Dir
  rep : Bool
/-- A slice that reads as these directives, in a block of directives, their texts in blocks of texts. -/
def DirsB (w : World) (v : Value) (ds : List Dir) : Prop :=
  ∃ (a : Option Addr) (cap : Nat) (us : Nat → Value), v = .slice a ds.length cap ∧ ds.length ≤ maxLen ∧ (∀ i (h : i < ds.length), StrsB w (us i) ds[i].vals) ∧ (∀ d ∈ ds, d.name.length ≤ maxLen) ∧
    (ds = [] ∨ ∃ b off cs fz, a = some ⟨b, off, none⟩ ∧ w.heap[b]? = some (.cells cs 42 fz) ∧ ∀ i (h : i < ds.length), cs[off + i * 2]? = some (.string ⟨⟨ds[i].name⟩⟩) ∧ cs[off + i * 2 + 1]? = some (us i))
theorem DirsB.dirs {w : World} {v : Value} {ds : List Dir} (h : DirsB w v ds) : DirsAt w v ds := by
  obtain ⟨a, cap, us, h1, h2, h3, h5, h4⟩ := h
  refine ⟨a, cap, us, h1, h2, fun i hi => (h3 i hi).strs, h5, ?_⟩
  rcases h4 with h4 | ⟨b, off, cs, fz, e, hb, hc⟩
  · exact .inl h4
  · refine .inr ⟨b, off, e, lt_of_block hb, fun i hi => ?_⟩
    obtain ⟨c1, c2⟩ := hc i hi
    simp only [World.cell?, hb]
    exact ⟨by simpa using c1, by simpa using c2⟩
theorem DirsB.ext {w w' : World} {v : Value} {l : List Dir} (h : DirsB w v l) (k : Below w.heap.size w w') : DirsB w' v l := by
  obtain ⟨a, cap, us, h1, h2, h3, h5, h4⟩ := h
  refine ⟨a, cap, us, h1, h2, fun i hi => (h3 i hi).ext k, h5, ?_⟩
  rcases h4 with h4 | ⟨b, off, cs, fz, e, hb, hc⟩
  · exact .inl h4
  · exact .inr ⟨b, off, cs, fz, e, (k.block b (lt_of_block hb)).trans hb, hc⟩
/-- An append to a row of another kind turns nothing. -/
theorem DirsB.grown {w w' : World} {v : Value} {l : List Dir} {row : Option Nat} (h : DirsB w v l) (k : w.grownBy w' row) (hr : ∀ g cs fz, row = some g → w.heap[g]? ≠ some (.cells cs 9 fz)) (hr2 : ∀ g cs fz, row = some g → w.heap[g]? ≠ some (.cells cs 42 fz)) : DirsB w' v l := by
  obtain ⟨a, cap, us, h1, h2, h3, h5, h4⟩ := h
  refine ⟨a, cap, us, h1, h2, fun i hi => (h3 i hi).grown k hr, h5, ?_⟩
  rcases h4 with h4 | ⟨b, off, cs, fz, e, hb, hc⟩
  · exact .inl h4
  · exact .inr ⟨b, off, cs, fz, e, (k.block b (lt_of_block hb) (fun e => hr2 b cs fz e.symm hb)).trans hb, hc⟩
theorem OwnD.dirsB {B : Nat} {v : Value} {l : List Dir} {w : World} (h : OwnD B v l w) (hl : l.length ≤ maxLen) : DirsB w v l := by
  obtain ⟨ps, rfl, ⟨_, h2⟩, h3, h4⟩ := h
  rcases h2 with ⟨rfl, h0⟩ | ⟨g, cap, cur, rfl, _, hg, hn, _, hc, htk⟩
  · have : ps = [] := List.eq_nil_of_length_eq_zero (by omega)
    subst this
    exact ⟨none, 0, fun _ => default, rfl, Nat.zero_le _, by simp, by simp, .inl rfl⟩
  · refine ⟨some ⟨g, 0, none⟩, cap, fun i => (ps[i]?.map (·.2)).getD default, by simp, hl, fun i hi => ?_, h4, .inr ⟨g, 0, cur, _, rfl, hg, fun i hi => ?_⟩⟩
    · simp only [List.length_map] at hi
      simp only [List.getElem?_eq_getElem hi, Option.map_some, Option.getD_some, List.getElem_map]
      exact h3 _ (List.getElem_mem hi)
    · simp only [List.length_map] at hi
      obtain ⟨e1, e2⟩ := dirCells_at ps i hi
      rw [← htk, List.getElem?_take, if_pos (by omega)] at e1 e2
      simp only [Nat.zero_add, List.getElem?_eq_getElem hi, Option.map_some, Option.getD_some, List.getElem_map]
      exact ⟨by simpa using e1, by simpa using e2⟩
def polCells (ps : List (Pol × Value)) : List Value := ps.flatMap fun p => [p.2, .bool p.1.rep]
theorem polCells_len (ps : List (Pol × Value)) : (polCells ps).length = ps.length * 2 := by
  induction ps with
  | nil => rfl
  | cons p ps ih =>
    show (List.length (_ :: _ :: polCells ps)) = _
    simp only [List.length_cons, ih]
    omega
theorem polCells_app (ps qs : List (Pol × Value)) : polCells (ps ++ qs) = polCells ps ++ polCells qs := by simp [polCells]
theorem polCells_at : ∀ (ps : List (Pol × Value)) (i : Nat) (h : i < ps.length), (polCells ps)[i * 2]? = some ps[i].2 ∧ (polCells ps)[i * 2 + 1]? = some (.bool ps[i].1.rep)
  | [], i, h => by simp at h
  | p :: ps, 0, _ => ⟨rfl, rfl⟩
  | p :: ps, i + 1, h => by
    have := polCells_at ps i (by simpa using h)
    have e1 : (i + 1) * 2 = i * 2 + 1 + 1 := by omega
    rw [e1]
    exact this
/-- A []Policy of the call's own, from block B on, that holds these. -/
def OwnP (B : Nat) (v : Value) (l : List Pol) (w : World) : Prop :=
  ∃ ps : List (Pol × Value), ps.map (·.1) = l ∧ w.ownsRow B 36 2 v ps.length (polCells ps) ∧ ∀ p ∈ ps, DirsB w p.2 p.1.ds
theorem OwnP.nil (B : Nat) (w : World) : OwnP B (.slice none 0 0) [] w := ⟨[], rfl, World.ownsRow_nil _ _ _ _, by simp⟩
theorem OwnP.ext {B : Nat} {v : Value} {l : List Pol} {w w' : World} (h : OwnP B v l w) (k : Below w.heap.size w w') : OwnP B v l w' := by
  obtain ⟨ps, h1, h2, h3⟩ := h
  refine ⟨ps, h1, ?_, fun p hp => (h3 p hp).ext k⟩
  refine World.ownsRow.kept h2 (row := none) ⟨k.os, k.tape, k.output, k.size, fun i hi _ => k.block i hi⟩ ?_
  cases v.ownBlock with
  | none => exact .inl rfl
  | some g => exact .inr (by simp)
theorem OwnP.mono {B B' : Nat} {v : Value} {l : List Pol} {w : World} (h : OwnP B' v l w) (hB : B ≤ B') : OwnP B v l w := by
  obtain ⟨ps, h1, ⟨h2, h3⟩, h4⟩ := h
  refine ⟨ps, h1, ⟨h2, ?_⟩, h4⟩
  rcases h3 with h3 | ⟨g, cap, cur, e, hg, r⟩
  · exact .inl h3
  · exact .inr ⟨g, cap, cur, e, by omega, r⟩
theorem OwnP.len {B : Nat} {v : Value} {l : List Pol} {w : World} (h : OwnP B v l w) : ∃ a cap, v = .slice a l.length cap := by
  obtain ⟨ps, rfl, ⟨_, h2⟩, _⟩ := h
  rcases h2 with ⟨rfl, h0⟩ | ⟨g, cap, cur, rfl, _⟩
  · exact ⟨none, 0, by simp [h0]⟩
  · exact ⟨some ⟨g, 0, none⟩, cap, by simp⟩
/-- The row of policies is no block of texts, nor of directives. -/
theorem row_kind {B n : Nat} {v : Value} {xs : List Value} {W : World} (h2 : W.ownsRow B 36 2 v n xs) {t : TypeId} (ht : t ≠ 36) : ∀ g cs fz, v.ownBlock = some g → W.heap[g]? ≠ some (.cells cs t fz) := by
  intro g cs fz hg he
  rcases h2.2 with ⟨rfl, _⟩ | ⟨g', cap, cur, rfl, _, hh, _⟩
  · simp [Value.ownBlock] at hg
  · simp [Value.ownBlock] at hg
    subst hg
    rw [hh] at he
    simp at he
    exact ht he.2.1.symm
/-- 'append(b, Policy{..})'. -/
theorem app_pol {ops : Array Oper} {rest : List Oper} {o : Oper} {a : Act} {Q : Exit → Act → World → Prop} {w : World} (hgd : o.guard = none) (s x : Operand)
    (ho : o.op = .call { callee := .builtin .append, args := #[s, x], argTypes := #[26, 26] })
    {B : Nat} {v : Value} {l : List Pol} (p : Pol) (u : Value) (W : World) (hs : a.eval s = v) (hw : w = W.alloc (.cells #[u, .bool p.rep] 36)) (hown : OwnP B v l W) (hu : DirsB W u p.ds)
    (hx : a.eval x = .slice (some ⟨W.heap.size, 0, none⟩) 1 1) (hlen : l.length + 1 ≤ 1000000000) (hbase : B ≤ W.heap.size)
    (h : ∀ v' w', OwnP B v' (l ++ [p]) w' → Below B W w' → wpList Tryd.prog ops Q rest (a.put o.dst v') w') : wpList Tryd.prog ops Q (o :: rest) a w := by
  obtain ⟨i0, hi, hz0, hz1, hz2⟩ := info_parts Tryd.infoPol
  obtain ⟨ps, rfl, h2, h3⟩ := hown
  have hone : u.oneCell' = true := by
    obtain ⟨a', cap', us, e, _⟩ := hu
    subst e
    rfl
  have hps : (ps.map (·.1)).length = ps.length := by simp
  rw [hps] at hlen
  refine wpList_app1 hgd s x 26 ho B 36 i0 _ 2 32 Tryd.underlying26 hi hz0 hz1 hz2 rfl (by decide) v ps.length _ hs W [u, .bool p.rep] hw h2 hx rfl ?_ (by unfold maxLen; omega) (by omega) hbase ?_
  · intro y hy
    simp at hy
    rcases hy with rfl | rfl
    · exact hone
    · rfl
  · intro v' w' g1 g2 _
    refine h v' w' ⟨ps ++ [(p, u)], by simp, ?_, ?_⟩ (below_grown (Below.refl _ _) hbase h2 g2)
    · rw [polCells_app, List.length_append]
      exact g1
    · intro q hq
      rcases List.mem_append.1 hq with hq | hq
      · exact (h3 q hq).grown g2 (row_kind h2 (by decide)) (row_kind h2 (by decide))
      · simp at hq
        subst hq
        exact hu.grown g2 (row_kind h2 (by decide)) (row_kind h2 (by decide))
/-- A slice that reads as these policies. -/
def PolsAt (w : World) (v : Value) (l : List Pol) : Prop :=
  ∃ (a : Option Addr) (cap : Nat) (us : Nat → Value), v = .slice a l.length cap ∧ l.length ≤ maxLen ∧ (∀ i (h : i < l.length), DirsAt w (us i) l[i].ds) ∧
    (l = [] ∨ ∃ b off, a = some ⟨b, off, none⟩ ∧ b < w.heap.size ∧ ∀ i (h : i < l.length), w.cell? ⟨b, off + i * 2, none⟩ = some (us i) ∧ w.cell? ⟨b, off + i * 2 + 1, none⟩ = some (.bool l[i].rep))
theorem PolsAt.ext {w w' : World} {v : Value} {l : List Pol} (h : PolsAt w v l) (k : Below w.heap.size w w') : PolsAt w' v l := by
  obtain ⟨a, cap, us, h1, h2, h3, h4⟩ := h
  refine ⟨a, cap, us, h1, h2, fun i hi => (h3 i hi).ext k, ?_⟩
  rcases h4 with h4 | ⟨b, off, e, hb, hc⟩
  · exact .inl h4
  · exact .inr ⟨b, off, e, Nat.lt_of_lt_of_le hb k.size, fun i hi => ⟨(k.cell (p := ⟨b, off + i * 2, none⟩) hb).trans (hc i hi).1, (k.cell (p := ⟨b, off + i * 2 + 1, none⟩) hb).trans (hc i hi).2⟩⟩
theorem OwnP.pols {B : Nat} {v : Value} {l : List Pol} {w : World} (h : OwnP B v l w) (hl : l.length ≤ maxLen) : PolsAt w v l := by
  obtain ⟨ps, rfl, ⟨_, h2⟩, h3⟩ := h
  rcases h2 with ⟨rfl, h0⟩ | ⟨g, cap, cur, rfl, _, hg, hn, _, hc, htk⟩
  · have : ps = [] := List.eq_nil_of_length_eq_zero (by omega)
    subst this
    exact ⟨none, 0, fun _ => default, rfl, Nat.zero_le _, by simp, .inl rfl⟩
  · refine ⟨some ⟨g, 0, none⟩, cap, fun i => (ps[i]?.map (·.2)).getD default, by simp, hl, fun i hi => ?_, .inr ⟨g, 0, rfl, lt_of_block hg, fun i hi => ?_⟩⟩
    · simp only [List.length_map] at hi
      simp only [List.getElem?_eq_getElem hi, Option.map_some, Option.getD_some, List.getElem_map]
      exact (h3 _ (List.getElem_mem hi)).dirs
    · simp only [List.length_map] at hi
      obtain ⟨e1, e2⟩ := polCells_at ps i hi
      rw [← htk, List.getElem?_take, if_pos (by omega)] at e1 e2
      simp only [World.cell?, hg, Nat.zero_add, List.getElem?_eq_getElem hi, Option.map_some, Option.getD_some, List.getElem_map]
      exact ⟨by simpa using e1, by simpa using e2⟩
theorem PolsAt.cells {w : World} {v : Value} {l : List Pol} (h : PolsAt w v l) : ∃ a cap, v = .slice a l.length cap ∧ ∀ k (hk : k < l.length), ∃ b off u, a = some ⟨b, off, none⟩ ∧ b < w.heap.size ∧ w.cell? ⟨b, off + k * 2, none⟩ = some u ∧ w.cell? ⟨b, off + k * 2 + 1, none⟩ = some (.bool l[k].rep) ∧ DirsAt w u l[k].ds := by
  obtain ⟨a, cap, us, e1, _, e3, e4⟩ := h
  refine ⟨a, cap, e1, fun k hk => ?_⟩
  rcases e4 with rfl | ⟨b, off, e, hb, hc⟩
  · simp at hk
  · exact ⟨b, off, us k, e, hb, (hc k hk).1, (hc k hk).2, e3 k hk⟩
/-- The policies of a header's value. -/
def polsL (s : List UInt8) (rep : Bool) : List Pol := (listL s).map fun ds => ⟨ds, rep⟩
theorem list_fold_snoc (P : List (List UInt8)) {k : Nat} (h : k < P.length) : (P.take (k + 1)).foldl listStep [] = listStep ((P.take k).foldl listStep []) P[k] := by
  rw [List.take_succ_eq_append_getElem h, List.foldl_append]
  rfl
set_option maxHeartbeats 4000000 in
theorem list_any (l : List UInt8) (rep : Bool) (w : World) (hm : MaxIs w) (hl : l.length < 100000) :
    Calls Tryd.prog 8 #[.string ⟨⟨l⟩⟩, .bool rep] w fun e w' => ∃ v, e = .returned v ∧ OwnP w.heap.size v (polsL l rep) w' ∧ Ext w w' := by
  have hcount := split_count 44 l
  have heach := split_each 44 l
  obtain ⟨P, hP⟩ : ∃ P, splitL 44 l = P := ⟨_, rfl⟩
  have HP := Lib.hid hP
  have csplit := split_any l 44 w hm hl
  rw [hP] at hcount heach csplit
  have HE := Lib.hid heach
  clear hP heach
  go_enter Tryd.func8, Tryd.ntmps8
  go_wp2_with (go_at_call 14; refine csplit.mono ?_; rintro e w1 ⟨v, rfl, hsb, hx1⟩; obtain ⟨a, cap, rfl, hcells⟩ := hsb.cells; have HC := Lib.hid hcells; clear hcells)
  have hm1 := hm.ext hx1
  clear hm csplit hsb
  go_loopw [5, 12] (fun vs i wr => ∃ (k : Nat) (ls : List (List Dir)), i = .int .i64 k ∧ k ≤ P.length ∧ ls.length ≤ k ∧ OwnP w1.heap.size vs (ls.map fun ds => ⟨ds, rep⟩) wr ∧ Hid (ls = (P.take k).foldl listStep []) ∧ Ext w1 wr) (fun _ i _ => P.length - (intOf i).toNat)
  case atStart => exact ⟨0, [], rfl, by omega, by simp, OwnP.nil _ _, Lib.hid rfl, Ext.refl _⟩
  case round =>
    obtain ⟨k, ls, rfl, hk, hls, hown, HD, hx⟩ := hrel
    by_cases hlt : k < P.length
    · obtain ⟨b, off, rfl, hb, hcell⟩ := HC.out k hlt
      have hcell := (hx.cell (p := ⟨b, off + k, none⟩) hb).trans hcell
      have hpl : P[k].length < 100000 := by have := HE.out _ (List.getElem_mem hlt); omega
      have HS : Hid ((P.take (k + 1)).foldl listStep [] = listStep ls P[k]) := Lib.hid (by rw [list_fold_snoc P hlt, HD.out])
      obtain ⟨p, hp⟩ : ∃ p, P[k] = p := ⟨_, rfl⟩
      rw [hp] at hcell hpl HS
      have c1 := fun W hM => one_any p W hM hpl
      have hol := one_len p
      obtain ⟨ds, hd⟩ : ∃ ds, oneL p = ds := ⟨_, rfl⟩
      rw [hd] at c1 hol
      have k0 : (0 : Int) ≤ (k : Int) := by omega
      have k1 : (k : Int) < (P.length : Int) := by omega
      have hml : (ls.map fun ds => (⟨ds, rep⟩ : Pol)).length + 1 ≤ 1000000000 := by rw [List.length_map]; omega
      by_cases hn : ds = []
      · have HA : Hid (listStep ls p = ls) := Lib.hid (by unfold listStep; rw [hd, if_pos hn])
        subst hn
        clear hp hd
        go_wp2_with (go_at_call 7; refine (c1 _ (hm1.ext hx)).mono ?_; rintro e w2 ⟨v2, rfl, hown2, hx2⟩; obtain ⟨a2, cp2, rfl⟩ := hown2.len)
        go_roundw
        case rel => exact ⟨k + 1, ls, by go_num, by omega, by omega, hown.ext hx2, Lib.hid (by rw [HS.out, HA.out]), Ext.trans hx hx2⟩
        case measure => simp [intOf]; omega
      · have HA : Hid (listStep ls p = ls ++ [ds]) := Lib.hid (by unfold listStep; rw [hd, if_neg hn])
        have hdl : 0 < ds.length := List.length_pos_iff.2 hn
        clear hp hd hn
        go_wp2_with (first
          | (go_at_call 7; refine (c1 _ (hm1.ext hx)).mono ?_; rintro e w2 ⟨v2, rfl, hown2, hx2⟩; have hdb := hown2.dirsB (by unfold maxLen; omega); have hownx := hown.ext hx2; obtain ⟨a2, cp2, rfl⟩ := hown2.len)
          | (at_builtin; refine app_pol rfl _ _ rfl ⟨ds, rep⟩ _ w2 rfl rfl hownx hdb rfl hml (Nat.le_trans hx.size hx2.size) ?_; intro v5 w5 hown5 hx5))
        go_roundw
        case rel => exact ⟨k + 1, ls ++ [ds], by go_num, by omega, by simp; omega, by rw [List.map_append]; exact hown5, Lib.hid (by rw [HS.out, HA.out]), Below.trans (Ext.trans hx hx2) hx5⟩
        case measure => simp [intOf]; omega
    · obtain rfl : k = P.length := by omega
      go_wp2_with fail
      go_ret
      refine ⟨_, rfl, ?_, Ext.trans hx1 hx⟩
      have : ls = listL l := by
        rw [HD.out, List.take_length]
        unfold listL
        rw [HP.out]
      unfold polsL
      rw [← this]
      exact hown.mono hx1.size
end Go.Proofs.YtfaomejdoljfnaaDoor
