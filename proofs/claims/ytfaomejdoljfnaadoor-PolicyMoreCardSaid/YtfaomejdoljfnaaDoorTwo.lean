/-
  What is proved: lists of pairs of texts (headers, attributes) as they stand in memory: what they read as, what appends make of them. Condition: lengths that fit.
-/
import Derived.Test.YtfaomejdoljfnaaDoorApp
import Derived.Deep.AppendLies
namespace Go.Proofs.YtfaomejdoljfnaaDoor
open Go.RowKit

abbrev Pair := List UInt8 × List UInt8
def twoCells (l : List Pair) : List Value := l.flatMap fun p => [.string ⟨⟨p.1⟩⟩, .string ⟨⟨p.2⟩⟩]
theorem twoCells_len (l : List Pair) : (twoCells l).length = l.length * 2 := by
  induction l with
  | nil => rfl
  | cons p l ih =>
    show (List.length (_ :: _ :: twoCells l)) = _
    simp only [List.length_cons, ih]
    omega
theorem twoCells_app (l m : List Pair) : twoCells (l ++ m) = twoCells l ++ twoCells m := by simp [twoCells]
theorem twoCells_at : ∀ (l : List Pair) (i : Nat) (h : i < l.length), (twoCells l)[i * 2]? = some (.string ⟨⟨l[i].1⟩⟩) ∧ (twoCells l)[i * 2 + 1]? = some (.string ⟨⟨l[i].2⟩⟩)
  | [], i, h => by simp at h
  | p :: l, 0, _ => ⟨rfl, rfl⟩
  | p :: l, i + 1, h => by
    have := twoCells_at l i (by simpa using h)
    have e1 : (i + 1) * 2 = i * 2 + 1 + 1 := by omega
    rw [e1]
    exact this
theorem twoCells_one (l : List Pair) : ∀ u ∈ twoCells l, u.oneCell' = true := by
  intro u hu
  obtain ⟨p, _, hp⟩ := List.mem_flatMap.1 hu
  simp only [List.mem_cons, List.not_mem_nil, or_false] at hp
  rcases hp with rfl | rfl <;> rfl
/-- What the types t (of lists) and T (of pairs) are. -/
structure TwoT (t T : TypeId) : Prop where
  under : Tryd.prog.underlying t = some (.slice T)
  info : (Tryd.prog.info? T).map (fun i => (i.zero, i.size, i.bytes)) = some (some (.agg #[.string ByteArray.empty, .string ByteArray.empty]), 2, 32)
/-- A list of pairs of the call's own, from block B on. -/
def Own2 (T : TypeId) (B : Nat) (v : Value) (l : List Pair) (w : World) : Prop := w.ownsRow B T 2 v l.length (twoCells l)
theorem Own2.nil (T : TypeId) (B : Nat) (w : World) : Own2 T B (.slice none 0 0) [] w := World.ownsRow_nil _ _ _ _
theorem Own2.ext {T : TypeId} {B : Nat} {v : Value} {l : List Pair} {w w' : World} (h : Own2 T B v l w) (k : Below w.heap.size w w') : Own2 T B v l w' := by
  refine World.ownsRow.kept h (row := none) ⟨k.os, k.tape, k.output, k.size, fun i hi _ => k.block i hi⟩ ?_
  cases v.ownBlock with
  | none => exact .inl rfl
  | some g => exact .inr (by simp)
theorem Own2.drewN {T : TypeId} {B : Nat} {v : Value} {l : List Pair} {w : World} (h : Own2 T B v l w) (n : Nat) : Own2 T B v l (w.drewN n) := h.ext (below_drewN (Below.refl _ _) n)
/-- A slice that reads as these pairs. -/
def TwoAt (w : World) (v : Value) (l : List Pair) : Prop :=
  ∃ (a : Option Addr) (cap : Nat), v = .slice a l.length cap ∧ l.length ≤ maxLen ∧ (∀ p ∈ l, p.1.length ≤ maxLen ∧ p.2.length ≤ maxLen) ∧
    (l = [] ∨ ∃ b off, a = some ⟨b, off, none⟩ ∧ b < w.heap.size ∧ ∀ i (h : i < l.length), w.cell? ⟨b, off + i * 2, none⟩ = some (.string ⟨⟨l[i].1⟩⟩) ∧ w.cell? ⟨b, off + i * 2 + 1, none⟩ = some (.string ⟨⟨l[i].2⟩⟩))
theorem TwoAt.ext {w w' : World} {v : Value} {l : List Pair} (h : TwoAt w v l) (k : Below w.heap.size w w') : TwoAt w' v l := by
  obtain ⟨a, cap, h1, h2, h3, h4⟩ := h
  refine ⟨a, cap, h1, h2, h3, ?_⟩
  rcases h4 with h4 | ⟨b, off, e, hb, hc⟩
  · exact .inl h4
  · exact .inr ⟨b, off, e, Nat.lt_of_lt_of_le hb k.size, fun i hi => ⟨(k.cell (p := ⟨b, off + i * 2, none⟩) hb).trans (hc i hi).1, (k.cell (p := ⟨b, off + i * 2 + 1, none⟩) hb).trans (hc i hi).2⟩⟩
theorem TwoAt.cells {w : World} {v : Value} {l : List Pair} (h : TwoAt w v l) : ∃ a cap, v = .slice a l.length cap ∧ ∀ k (hk : k < l.length), ∃ b off, a = some ⟨b, off, none⟩ ∧ b < w.heap.size ∧ w.cell? ⟨b, off + k * 2, none⟩ = some (.string ⟨⟨l[k].1⟩⟩) ∧ w.cell? ⟨b, off + k * 2 + 1, none⟩ = some (.string ⟨⟨l[k].2⟩⟩) := by
  obtain ⟨a, cap, e1, _, _, e4⟩ := h
  refine ⟨a, cap, e1, fun k hk => ?_⟩
  rcases e4 with rfl | ⟨b, off, e, hb, hc⟩
  · simp at hk
  · exact ⟨b, off, e, hb, (hc k hk).1, (hc k hk).2⟩
theorem TwoAt.news {w : World} {A : Option Addr} {n c : Nat} {l : List Pair} (h : TwoAt w (.slice A n c) l) : n = l.length ∧ (A = none → l.length = 0) ∧ ∀ ad, A = some ad → ∀ j y, (twoCells l)[j]? = some y → w.cell? (ad.add j) = some y := by
  obtain ⟨a, cap, e1, _, _, e4⟩ := h
  simp only [Value.slice.injEq] at e1
  obtain ⟨rfl, rfl, rfl⟩ := e1
  refine ⟨rfl, fun hA => ?_, fun ad hA j y hj => ?_⟩
  · rcases e4 with rfl | ⟨b, off, e, _⟩
    · rfl
    · rw [hA] at e; cases e
  · have hjl : j < l.length * 2 := by
      have := (List.getElem?_eq_some_iff.1 hj).1
      rwa [twoCells_len] at this
    rcases e4 with rfl | ⟨b, off, e, _, hc⟩
    · simp at hjl
    · rw [hA] at e
      cases e
      rw [Go.WideShapes.add_plain]
      have hm : j / 2 < l.length := by omega
      obtain ⟨t1, t2⟩ := twoCells_at l (j / 2) hm
      obtain ⟨c1, c2⟩ := hc (j / 2) hm
      rcases Nat.mod_two_eq_zero_or_one j with h0 | h0
      · have e : j = j / 2 * 2 := by omega
        rw [← e] at t1 c1
        rw [c1, ← hj, t1]
      · have e : j = j / 2 * 2 + 1 := by omega
        have e' : off + j / 2 * 2 + 1 = off + j := by omega
        rw [← e] at t2
        rw [e'] at c2
        rw [c2, ← hj, t2]
/-- What the call has made reads as these pairs. -/
theorem Own2.two {T : TypeId} {B : Nat} {v : Value} {l : List Pair} {w : World} (h : Own2 T B v l w) (hl : l.length ≤ maxLen) (hm : ∀ p ∈ l, p.1.length ≤ maxLen ∧ p.2.length ≤ maxLen) : TwoAt w v l := by
  obtain ⟨_, h⟩ := h
  rcases h with ⟨rfl, h0⟩ | ⟨g, cap, cur, rfl, _, hg, hn, _, hc, htk⟩
  · have : l = [] := List.eq_nil_of_length_eq_zero (by omega)
    subst this
    exact ⟨none, 0, rfl, Nat.zero_le _, by simp, .inl rfl⟩
  · refine ⟨some ⟨g, 0, none⟩, cap, rfl, hl, hm, .inr ⟨g, 0, rfl, (Array.getElem?_eq_some_iff.1 hg).1, fun i hi => ?_⟩⟩
    obtain ⟨e1, e2⟩ := twoCells_at l i hi
    rw [← htk, List.getElem?_take, if_pos (by omega)] at e1 e2
    simp only [World.cell?, hg, Nat.zero_add]
    exact ⟨by simpa using e1, by simpa using e2⟩
/-- 'append(b, pairs...)', at a step of a region that draws. -/
theorem step_app_two {t T : TypeId} (HT : TwoT t T) {ops : Array Oper} {o : Oper} {a : Act} {K : Act → World → Prop} {Q : Exit → Act → World → Prop} {E : Prop} {w : World} (hgd : o.guard = none) (s x : Operand)
    (ho : o.op = .call { callee := .builtin .append, args := #[s, x], argTypes := #[t, t] })
    {B : Nat} {v u : Value} {l m : List Pair} (hs : a.eval s = v) (hx : a.eval x = u) (hown : Own2 T B v l w) (hu : TwoAt w u m) (hlen : l.length + m.length ≤ 1000000000) (hbase : B ≤ w.heap.size)
    (h : ∀ v' w', Own2 T B v' (l ++ m) w' → w.grownBy w' v.ownBlock → K (a.put o.dst v') w') :
    if Region.wanted o (yielded ops a.tmps) = true then Oper.wp Tryd.prog o a w K Q else E := by
  have hw : Region.wanted o (yielded ops a.tmps) = true := by simp [Region.wanted, hgd]
  rw [if_pos hw]
  obtain ⟨i0, hi, hz0, hz1, hz2⟩ := info_parts HT.info
  have hu2 := hu
  obtain ⟨A, c, rfl, _⟩ := hu2
  obtain ⟨_, n1, n2⟩ := hu.news
  cases A with
  | none =>
    have hm : m = [] := List.eq_nil_of_length_eq_zero (n1 rfl)
    subst hm
    have hrun := run_app_empty (P := Tryd.prog) w B t o.type T i0 2 HT.under hi v l.length _ hown c
    unfold Oper.wp execOp
    simp only [ho, resolve, invoke, builtin, hs, hx, List.map_toArray, List.map_cons, List.map_nil, Sem.run_bind, Sem.run_pure, Result.andThen_ok, List.length_nil, hrun]
    exact h v w (by simpa using hown) (World.grownBy.refl w _)
  | some ad =>
    obtain ⟨v', w', hr, h2, h3, _, h5⟩ := run_append_own_at (P := Tryd.prog) w B t o.type T i0 _ 2 32 HT.under hi hz0 hz1 hz2 rfl (by decide) v l.length _ hown ad m.length c (twoCells m) (twoCells_len m) (n2 ad rfl) (twoCells_one m) (by unfold maxLen; omega) (by omega) hbase
    unfold Oper.wp execOp
    simp only [ho, resolve, invoke, builtin, hs, hx, List.map_toArray, List.map_cons, List.map_nil, Sem.run_bind, Sem.run_pure, Result.andThen_ok, hr]
    refine h v' w' ?_ h3
    unfold Own2
    rw [twoCells_app, List.length_append]
    exact h2
/-- A literal of one pair reads as it. -/
theorem TwoAt.one {w : World} {b : Nat} {T : TypeId} {x y : ByteArray} {p : Pair} (h : w.heap[b]? = some (.cells #[.string x, .string y] T)) (hx : x = ⟨⟨p.1⟩⟩) (hy : y = ⟨⟨p.2⟩⟩) (h1 : p.1.length ≤ maxLen) (h2 : p.2.length ≤ maxLen) : TwoAt w (.slice (some ⟨b, 0, none⟩) 1 1) [p] := by
  subst hx hy
  refine ⟨some ⟨b, 0, none⟩, 1, rfl, (show 1 ≤ maxLen by decide), ?_, .inr ⟨b, 0, rfl, (Array.getElem?_eq_some_iff.1 h).1, ?_⟩⟩
  · intro q hq
    simp only [List.mem_cons, List.not_mem_nil, or_false] at hq
    subst hq
    exact ⟨h1, h2⟩
  · intro i hi
    obtain rfl : i = 0 := by simpa using hi
    simp [World.cell?, h]
/-- 'append(b, E{x, y})'. -/
theorem app_two {t T : TypeId} (HT : TwoT t T) {ops : Array Oper} {rest : List Oper} {o : Oper} {a : Act} {Q : Exit → Act → World → Prop} {w : World} (hgd : o.guard = none) (s x : Operand)
    (ho : o.op = .call { callee := .builtin .append, args := #[s, x], argTypes := #[t, t] })
    {B : Nat} {v : Value} {l : List Pair} (p : Pair) (n m : ByteArray) (W : World) (hs : a.eval s = v) (hw : w = W.alloc (.cells #[.string n, .string m] T)) (hn : n = ⟨⟨p.1⟩⟩) (hm : m = ⟨⟨p.2⟩⟩) (hown : Own2 T B v l W)
    (hx : a.eval x = .slice (some ⟨W.heap.size, 0, none⟩) 1 1) (hlen : l.length + 1 ≤ 1000000000) (hbase : B ≤ W.heap.size)
    (h : ∀ v' w', Own2 T B v' (l ++ [p]) w' → W.grownBy w' v.ownBlock → wpList Tryd.prog ops Q rest (a.put o.dst v') w') : wpList Tryd.prog ops Q (o :: rest) a w := by
  obtain ⟨i0, hi, hz0, hz1, hz2⟩ := info_parts HT.info
  subst hn hm
  refine wpList_app1 hgd s x t ho B T i0 _ 2 32 HT.under hi hz0 hz1 hz2 rfl (by decide) v l.length _ hs W [.string ⟨⟨p.1⟩⟩, .string ⟨⟨p.2⟩⟩] hw hown hx rfl ?_ (by unfold maxLen; omega) (by omega) hbase ?_
  · intro y hy
    simp at hy
    rcases hy with rfl | rfl <;> rfl
  · intro v' w' g1 g2 _
    refine h v' w' ?_ g2
    unfold Own2
    rw [twoCells_app, List.length_append]
    exact g1
end Go.Proofs.YtfaomejdoljfnaaDoor
