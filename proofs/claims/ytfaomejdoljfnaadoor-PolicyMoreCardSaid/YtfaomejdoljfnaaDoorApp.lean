/-
  What is proved: 'append(b, xs...)': lists of texts, lists of policies. Condition: lengths that fit.
-/
import Derived.Test.YtfaomejdoljfnaaDoorPls
import Derived.Laws.OwnMore
namespace Go.Proofs.YtfaomejdoljfnaaDoor
open Go.RowKit

theorem run_app_empty {P : Program} (w : World) (base : Nat) (t ty e : TypeId) (i : TypeInfo) (size : Nat) (ht : P.underlying t = some (.slice e)) (hi : P.info? e = some i) (v : Value) (n : Nat) (xs : List Value) (hown : w.ownsRow base e size v n xs) (c : Nat) :
    (Builtin.append_ #[t, t] ty #[v, .slice none 0 c]).run P w = .ok v w := by
  rcases hown.2 with ⟨rfl, rfl⟩ | ⟨g, cap, cur, rfl, _, _, hc, _⟩
  · simp [Builtin.append_, run_underlying ht, sizeOf, typeInfo, hi, Builtin.lenOf, Builtin.firstCells]
  · simp [Builtin.append_, run_underlying ht, sizeOf, typeInfo, hi, Builtin.lenOf, Builtin.firstCells, hc, storeCells]
theorem wpList_app_all {P : Program} {w : World} {ops : Array Oper} {rest : List Oper} {o : Oper} {a : Act} {Q : Exit → Act → World → Prop} (hgd : o.guard = none) (s x : Operand) (t : TypeId)
    (ho : o.op = .call { callee := .builtin .append, args := #[s, x], argTypes := #[t, t] })
    (base : Nat) (e : TypeId) (i : TypeInfo) (z : Value) (size bytes : Nat) (ht : P.underlying t = some (.slice e)) (hi : P.info? e = some i) (hz : i.zero = some z)
    (hsize : i.size = size) (hby : i.bytes = bytes) (hzs : z.cells.size = size) (hsz : 0 < size)
    (v : Value) (n : Nat) (xs : List Value) (hs : a.eval s = v) (hown : w.ownsRow base e size v n xs)
    (A : Option Addr) (m c : Nat) (news : List Value) (hx : a.eval x = .slice A m c) (hl : news.length = m * size) (hnone : A = none → m = 0) (hnews : ∀ ad, A = some ad → ∀ j u, news[j]? = some u → w.cell? (ad.add j) = some u) (h1 : ∀ u ∈ news, u.oneCell' = true)
    (h63 : n + m ≤ maxLen) (hbytes : (n + m) * bytes ≤ 140737488355328) (hbase : base ≤ w.heap.size)
    (h : ∀ v' w', w'.ownsRow base e size v' (n + m) (xs ++ news) → w.grownBy w' v.ownBlock → wpList P ops Q rest (a.put o.dst v') w') : wpList P ops Q (o :: rest) a w := by
  cases A with
  | none =>
    have hm := hnone rfl
    subst hm
    have hn : news = [] := List.eq_nil_of_length_eq_zero (by omega)
    subst hn
    refine wpList_plain hgd fun K hK => ?_
    have hrun := run_app_empty (P := P) w base t o.type e i size ht hi v n xs hown c
    unfold Oper.wp
    simp only [execOp, ho, resolve, invoke, builtin, hs, hx, List.map_toArray, List.map_cons, List.map_nil, Sem.run_bind, Sem.run_pure, Result.andThen_ok, hrun]
    exact hK _ _ (h v w (by simpa using hown) (World.grownBy.refl w _))
  | some ad =>
    exact wpList_append_own w hgd s x t ho base e i z size bytes ht hi hz hsize hby hzs hsz v n xs hs hown ad m c news hx hl (hnews ad rfl) h1 h63 hbytes hbase fun v' w' h2 h3 _ => h v' w' h2 h3
/-- 'append(b, texts...)'. -/
theorem app_strs {ops : Array Oper} {rest : List Oper} {o : Oper} {a : Act} {Q : Exit → Act → World → Prop} {w : World} (hgd : o.guard = none) (s x : Operand)
    (ho : o.op = .call { callee := .builtin .append, args := #[s, x], argTypes := #[40, 40] })
    {B : Nat} {v u : Value} {l m : List (List UInt8)} (hs : a.eval s = v) (hx : a.eval x = u) (hown : OwnS B v l w) (hu : StrsAt w u m) (hlen : l.length + m.length ≤ 1000000000) (hbase : B ≤ w.heap.size)
    (h : ∀ v' w', OwnS B v' (l ++ m) w' → Below B w w' → wpList Tryd.prog ops Q rest (a.put o.dst v') w') : wpList Tryd.prog ops Q (o :: rest) a w := by
  obtain ⟨i0, hi, hz0, hz1, hz2⟩ := info_parts Tryd.infoStr
  obtain ⟨A, c, rfl, hm1, hm2, hcl⟩ := hu
  refine wpList_app_all hgd s x 40 ho B 9 i0 (.string ByteArray.empty) 1 16 Tryd.underlying40 hi hz0 hz1 hz2 rfl (by decide) v l.length _ hs hown A m.length c (strCells m) hx (by simp [strCells]) ?_ ?_ ?_ (by unfold maxLen; omega) (by omega) hbase ?_
  · intro hA
    rcases hcl with rfl | ⟨b, off, e, _⟩
    · rfl
    · rw [hA] at e
      cases e
  · intro ad hA j y hj
    rcases hcl with rfl | ⟨b, off, e, _, hc⟩
    · simp [strCells] at hj
    · rw [hA] at e
      cases e
      have hjl : j < m.length := by
        have := (List.getElem?_eq_some_iff.1 hj).1
        simpa [strCells] using this
      rw [Go.WideShapes.add_plain, hc j hjl, ← hj]
      simp [strCells, hjl]
  · intro y hy
    obtain ⟨z, _, rfl⟩ := List.mem_map.1 hy
    rfl
  · intro v' w' h1 h2
    refine h v' w' ?_ (below_grown (Below.refl _ _) hbase hown h2)
    unfold OwnS
    rw [strCells_app, List.length_append]
    exact h1
/-- 'append(b, policies...)'. -/
theorem app_pols {ops : Array Oper} {rest : List Oper} {o : Oper} {a : Act} {Q : Exit → Act → World → Prop} {w : World} (hgd : o.guard = none) (s x : Operand)
    (ho : o.op = .call { callee := .builtin .append, args := #[s, x], argTypes := #[26, 26] })
    {B B' : Nat} {v u : Value} {l m : List Pol} (hs : a.eval s = v) (hx : a.eval x = u) (hown : OwnP B v l w) (hu : OwnP B' u m w) (hlen : l.length + m.length ≤ 1000000000) (hbase : B ≤ w.heap.size)
    (h : ∀ v' w', OwnP B v' (l ++ m) w' → Below B w w' → wpList Tryd.prog ops Q rest (a.put o.dst v') w') : wpList Tryd.prog ops Q (o :: rest) a w := by
  obtain ⟨i0, hi, hz0, hz1, hz2⟩ := info_parts Tryd.infoPol
  obtain ⟨ps, rfl, h2, h3⟩ := hown
  obtain ⟨qs, rfl, k2, k3⟩ := hu
  simp only [List.length_map] at hlen
  obtain ⟨A, c, hu⟩ : ∃ A c, u = .slice A qs.length c := by
    rcases k2.2 with ⟨rfl, h0⟩ | ⟨g, cap, cur, rfl, _⟩
    · exact ⟨none, 0, by rw [h0]⟩
    · exact ⟨_, _, rfl⟩
  have hcl : (A = none → qs.length = 0) ∧ ∀ ad, A = some ad → ∀ j y, (polCells qs)[j]? = some y → w.cell? (ad.add j) = some y := by
    rcases k2.2 with ⟨e, h0⟩ | ⟨g, cap, cur, e, _, hg, hn, _, hc, htk⟩
    · rw [hu] at e
      simp only [Value.slice.injEq] at e
      obtain ⟨rfl, _, _⟩ := e
      exact ⟨fun _ => h0, fun _ e => by cases e⟩
    · rw [hu] at e
      simp only [Value.slice.injEq] at e
      obtain ⟨rfl, _, _⟩ := e
      refine ⟨fun e => (by cases e), fun ad e j y hj => ?_⟩
      cases e
      have hjl : j < qs.length * 2 := by
        have := (List.getElem?_eq_some_iff.1 hj).1
        rwa [polCells_len] at this
      rw [Go.WideShapes.add_plain, Nat.zero_add]
      rw [← htk, List.getElem?_take, if_pos hjl] at hj
      simp only [World.cell?, hg]
      simpa using hj
  refine wpList_app_all hgd s x 26 ho B 36 i0 _ 2 32 Tryd.underlying26 hi hz0 hz1 hz2 rfl (by decide) v ps.length _ hs h2 A qs.length c (polCells qs) (hx.trans hu) (polCells_len qs) hcl.1 hcl.2 ?_ (by unfold maxLen; omega) (by omega) hbase ?_
  · intro y hy
    obtain ⟨q, hq, hy⟩ := List.mem_flatMap.1 hy
    simp only [List.mem_cons, List.not_mem_nil, or_false] at hy
    rcases hy with rfl | rfl
    · obtain ⟨a', cap', us, e, _⟩ := k3 q hq
      rw [e]
      rfl
    · rfl
  · intro v' w' g1 g2
    refine h v' w' ⟨ps ++ qs, by simp, ?_, ?_⟩ (below_grown (Below.refl _ _) hbase h2 g2)
    · rw [polCells_app, List.length_append]
      exact g1
    · intro q hq
      rcases List.mem_append.1 hq with hq | hq
      · exact (h3 q hq).grown g2 (row_kind h2 (by decide)) (row_kind h2 (by decide))
      · exact (k3 q hq).grown g2 (row_kind h2 (by decide)) (row_kind h2 (by decide))
end Go.Proofs.YtfaomejdoljfnaaDoor
