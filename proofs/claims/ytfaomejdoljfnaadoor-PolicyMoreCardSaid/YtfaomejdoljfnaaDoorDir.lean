/-
  What is proved: lists of directives (a name, a list of texts) as they stand in memory: what they read as, what one more makes of them. Condition: lengths that fit.
-/
import Derived.Test.YtfaomejdoljfnaaDoorStr
import Derived.Test.YtfaomejdoljfnaaDoorPolP
import Derived.Deep.AppendLies
namespace Go.Proofs
theorem Tryd.infoDir : (Tryd.prog.info? 42).map (fun i => (i.zero, i.size, i.bytes)) = some (some (.agg #[.string ByteArray.empty, .slice none 0 0]), 2, 40) := by kernel_rfl
end Go.Proofs
namespace Go.Proofs.YtfaomejdoljfnaaDoor
open Go.RowKit

/-! ### texts in a block of texts -/
/-- A slice that reads as these texts, in a block of texts. -/
def StrsB (w : World) (v : Value) (l : List (List UInt8)) : Prop :=
  ∃ (a : Option Addr) (cap : Nat), v = .slice a l.length cap ∧ l.length ≤ maxLen ∧ (∀ s ∈ l, s.length ≤ maxLen) ∧
    (l = [] ∨ ∃ b off cs fz, a = some ⟨b, off, none⟩ ∧ w.heap[b]? = some (.cells cs 9 fz) ∧ ∀ i (h : i < l.length), cs[off + i]? = some (.string ⟨⟨l[i]⟩⟩))
theorem lt_of_block {w : World} {b : Nat} {o : Obj} (h : w.heap[b]? = some o) : b < w.heap.size := (Array.getElem?_eq_some_iff.1 h).1
theorem StrsB.strs {w : World} {v : Value} {l : List (List UInt8)} (h : StrsB w v l) : StrsAt w v l := by
  obtain ⟨a, cap, h1, h2, h3, h4⟩ := h
  refine ⟨a, cap, h1, h2, h3, ?_⟩
  rcases h4 with h4 | ⟨b, off, cs, fz, e, hb, hc⟩
  · exact .inl h4
  · refine .inr ⟨b, off, e, lt_of_block hb, fun i hi => ?_⟩
    simp only [World.cell?, hb]
    simpa using hc i hi
theorem StrsB.ext {w w' : World} {v : Value} {l : List (List UInt8)} (h : StrsB w v l) (k : Below w.heap.size w w') : StrsB w' v l := by
  obtain ⟨a, cap, h1, h2, h3, h4⟩ := h
  refine ⟨a, cap, h1, h2, h3, ?_⟩
  rcases h4 with h4 | ⟨b, off, cs, fz, e, hb, hc⟩
  · exact .inl h4
  · exact .inr ⟨b, off, cs, fz, e, (k.block b (lt_of_block hb)).trans hb, hc⟩
/-- An append to a row of another kind turns nothing. -/
theorem StrsB.grown {w w' : World} {v : Value} {l : List (List UInt8)} {row : Option Nat} (h : StrsB w v l) (k : w.grownBy w' row) (hr : ∀ g cs fz, row = some g → w.heap[g]? ≠ some (.cells cs 9 fz)) : StrsB w' v l := by
  obtain ⟨a, cap, h1, h2, h3, h4⟩ := h
  refine ⟨a, cap, h1, h2, h3, ?_⟩
  rcases h4 with h4 | ⟨b, off, cs, fz, e, hb, hc⟩
  · exact .inl h4
  · exact .inr ⟨b, off, cs, fz, e, (k.block b (lt_of_block hb) (fun e => hr b cs fz e.symm hb)).trans hb, hc⟩
theorem OwnS.strsB {B : Nat} {v : Value} {l : List (List UInt8)} {w : World} (h : OwnS B v l w) (hl : l.length ≤ maxLen) (hm : ∀ s ∈ l, s.length ≤ maxLen) : StrsB w v l := by
  obtain ⟨_, h⟩ := h
  rcases h with ⟨rfl, h0⟩ | ⟨g, cap, cur, rfl, _, hg, hn, _, hc, htk⟩
  · have : l = [] := List.eq_nil_of_length_eq_zero (by omega)
    subst this
    exact ⟨none, 0, rfl, Nat.zero_le _, by simp, .inl rfl⟩
  · refine ⟨some ⟨g, 0, none⟩, cap, rfl, hl, hm, .inr ⟨g, 0, cur, _, rfl, hg, fun i hi => ?_⟩⟩
    have h1 : (cur.toList.take (l.length * 1))[i]? = (strCells l)[i]? := by rw [htk]
    rw [List.getElem?_take, if_pos (by omega)] at h1
    simp [strCells, hi] at h1
    simpa using h1
/-- All but the first. -/
theorem StrsB.tail {w : World} {b off cap n : Nat} {x : List UInt8} {l : List (List UInt8)} (h : StrsB w (.slice (some ⟨b, off, none⟩) n cap) (x :: l)) (c : Nat) (a : Option Addr) (ha : l ≠ [] → a = some ⟨b, off + 1, none⟩) : StrsB w (.slice a l.length c) l := by
  obtain ⟨a', cap', h1, h2, h3, h4⟩ := h
  simp only [Value.slice.injEq] at h1
  obtain ⟨rfl, rfl, rfl⟩ := h1
  refine ⟨a, c, rfl, by simp at h2; omega, fun s hs => h3 s (by simp [hs]), ?_⟩
  by_cases hl : l = []
  · exact .inl hl
  · rcases h4 with h4 | ⟨b', off', cs, fz, e, hb, hc⟩
    · cases h4
    · simp only [Option.some.injEq, Addr.mk.injEq, and_true] at e
      obtain ⟨rfl, rfl⟩ := e
      refine .inr ⟨b, off + 1, cs, fz, ha hl, hb, fun i hi => ?_⟩
      have := hc (i + 1) (by simp; omega)
      simp only [List.getElem_cons_succ] at this
      rw [← this]
      congr 1
      omega

/-! ### directives -/
def dirCells (ps : List (Dir × Value)) : List Value := ps.flatMap fun p => [.string ⟨⟨p.1.name⟩⟩, p.2]
theorem dirCells_len (ps : List (Dir × Value)) : (dirCells ps).length = ps.length * 2 := by
  induction ps with
  | nil => rfl
  | cons p ps ih =>
    show (List.length (_ :: _ :: dirCells ps)) = _
    simp only [List.length_cons, ih]
    omega
theorem dirCells_app (ps qs : List (Dir × Value)) : dirCells (ps ++ qs) = dirCells ps ++ dirCells qs := by simp [dirCells]
theorem dirCells_at : ∀ (ps : List (Dir × Value)) (i : Nat) (h : i < ps.length), (dirCells ps)[i * 2]? = some (.string ⟨⟨ps[i].1.name⟩⟩) ∧ (dirCells ps)[i * 2 + 1]? = some ps[i].2
  | [], i, h => by simp at h
  | p :: ps, 0, _ => ⟨rfl, rfl⟩
  | p :: ps, i + 1, h => by
    have := dirCells_at ps i (by simpa using h)
    have e1 : (i + 1) * 2 = i * 2 + 1 + 1 := by omega
    rw [e1]
    exact this
/-- A []Directive of the call's own, from block B on, that holds these. -/
def OwnD (B : Nat) (v : Value) (ds : List Dir) (w : World) : Prop :=
  ∃ ps : List (Dir × Value), ps.map (·.1) = ds ∧ w.ownsRow B 42 2 v ps.length (dirCells ps) ∧ (∀ p ∈ ps, StrsB w p.2 p.1.vals) ∧ ∀ d ∈ ds, d.name.length ≤ maxLen
theorem OwnD.nil (B : Nat) (w : World) : OwnD B (.slice none 0 0) [] w := ⟨[], rfl, World.ownsRow_nil _ _ _ _, by simp, by simp⟩
theorem OwnD.ext {B : Nat} {v : Value} {l : List Dir} {w w' : World} (h : OwnD B v l w) (k : Below w.heap.size w w') : OwnD B v l w' := by
  obtain ⟨ps, h1, h2, h3, h4⟩ := h
  refine ⟨ps, h1, ?_, fun p hp => (h3 p hp).ext k, h4⟩
  refine World.ownsRow.kept h2 (row := none) ⟨k.os, k.tape, k.output, k.size, fun i hi _ => k.block i hi⟩ ?_
  cases v.ownBlock with
  | none => exact .inl rfl
  | some g => exact .inr (by simp)
theorem OwnD.drewN {B : Nat} {v : Value} {l : List Dir} {w : World} (h : OwnD B v l w) (n : Nat) : OwnD B v l (w.drewN n) := h.ext (below_drewN (Below.refl _ _) n)
/-- 'append(b, Directive{..})'. -/
theorem app_dir {ops : Array Oper} {rest : List Oper} {o : Oper} {a : Act} {Q : Exit → Act → World → Prop} {w : World} (hgd : o.guard = none) (s x : Operand)
    (ho : o.op = .call { callee := .builtin .append, args := #[s, x], argTypes := #[32, 32] })
    {B : Nat} {v : Value} {l : List Dir} (d : Dir) (n : ByteArray) (u : Value) (W : World) (hs : a.eval s = v) (hw : w = W.alloc (.cells #[.string n, u] 42)) (hn : n = ⟨⟨d.name⟩⟩) (hown : OwnD B v l W) (hu : StrsB W u d.vals) (hnl : d.name.length ≤ maxLen)
    (hx : a.eval x = .slice (some ⟨W.heap.size, 0, none⟩) 1 1) (hlen : l.length + 1 ≤ 1000000000) (hbase : B ≤ W.heap.size)
    (h : ∀ v' w', OwnD B v' (l ++ [d]) w' → Below B W w' → wpList Tryd.prog ops Q rest (a.put o.dst v') w') : wpList Tryd.prog ops Q (o :: rest) a w := by
  obtain ⟨i0, hi, hz0, hz1, hz2⟩ := info_parts Tryd.infoDir
  obtain ⟨ps, rfl, h2, h3, h4⟩ := hown
  subst hn
  have hone : u.oneCell' = true := by
    obtain ⟨a', cap', e, _⟩ := hu
    subst e
    rfl
  have hps : (ps.map (·.1)).length = ps.length := by simp
  rw [hps] at hlen
  refine wpList_app1 hgd s x 32 ho B 42 i0 _ 2 40 Tryd.underlying32 hi hz0 hz1 hz2 rfl (by decide) v ps.length _ hs W [.string ⟨⟨d.name⟩⟩, u] hw h2 hx rfl ?_ (by unfold maxLen; omega) (by omega) hbase ?_
  · intro y hy
    simp at hy
    rcases hy with rfl | rfl
    · rfl
    · exact hone
  · intro v' w' g1 g2 _
    have hr : ∀ g cs fz, v.ownBlock = some g → W.heap[g]? ≠ some (.cells cs 9 fz) := by
      intro g cs fz hg he
      rcases h2.2 with ⟨rfl, _⟩ | ⟨g', cap, cur, rfl, _, hh, _⟩
      · simp [Value.ownBlock] at hg
      · simp [Value.ownBlock] at hg
        subst hg
        rw [hh] at he
        simp at he
    refine h v' w' ⟨ps ++ [(d, u)], by simp, ?_, ?_, ?_⟩ (below_grown (Below.refl _ _) hbase h2 g2)
    · rw [dirCells_app, List.length_append]
      exact g1
    · intro p hp
      rcases List.mem_append.1 hp with hp | hp
      · exact (h3 p hp).grown g2 hr
      · simp at hp
        subst hp
        exact hu.grown g2 hr
    · intro e he
      rcases List.mem_append.1 he with he | he
      · exact h4 e he
      · simp at he
        subst he
        exact hnl
/-- A slice that reads as these directives. -/
def DirsAt (w : World) (v : Value) (ds : List Dir) : Prop :=
  ∃ (a : Option Addr) (cap : Nat) (us : Nat → Value), v = .slice a ds.length cap ∧ ds.length ≤ maxLen ∧ (∀ i (h : i < ds.length), StrsAt w (us i) ds[i].vals) ∧ (∀ d ∈ ds, d.name.length ≤ maxLen) ∧
    (ds = [] ∨ ∃ b off, a = some ⟨b, off, none⟩ ∧ b < w.heap.size ∧ ∀ i (h : i < ds.length), w.cell? ⟨b, off + i * 2, none⟩ = some (.string ⟨⟨ds[i].name⟩⟩) ∧ w.cell? ⟨b, off + i * 2 + 1, none⟩ = some (us i))
theorem DirsAt.ext {w w' : World} {v : Value} {l : List Dir} (h : DirsAt w v l) (k : Below w.heap.size w w') : DirsAt w' v l := by
  obtain ⟨a, cap, us, h1, h2, h3, h5, h4⟩ := h
  refine ⟨a, cap, us, h1, h2, fun i hi => (h3 i hi).ext k, h5, ?_⟩
  rcases h4 with h4 | ⟨b, off, e, hb, hc⟩
  · exact .inl h4
  · exact .inr ⟨b, off, e, Nat.lt_of_lt_of_le hb k.size, fun i hi => ⟨(k.cell (p := ⟨b, off + i * 2, none⟩) hb).trans (hc i hi).1, (k.cell (p := ⟨b, off + i * 2 + 1, none⟩) hb).trans (hc i hi).2⟩⟩
theorem OwnD.dirs {B : Nat} {v : Value} {l : List Dir} {w : World} (h : OwnD B v l w) (hl : l.length ≤ maxLen) : DirsAt w v l := by
  obtain ⟨ps, rfl, ⟨_, h2⟩, h3, h4⟩ := h
  rcases h2 with ⟨rfl, h0⟩ | ⟨g, cap, cur, rfl, _, hg, hn, _, hc, htk⟩
  · have : ps = [] := List.eq_nil_of_length_eq_zero (by omega)
    subst this
    exact ⟨none, 0, fun _ => default, rfl, Nat.zero_le _, by simp, by simp, .inl rfl⟩
  · refine ⟨some ⟨g, 0, none⟩, cap, fun i => (ps[i]?.map (·.2)).getD default, by simp, hl, fun i hi => ?_, h4, .inr ⟨g, 0, rfl, lt_of_block hg, fun i hi => ?_⟩⟩
    · simp only [List.length_map] at hi
      simp only [List.getElem?_eq_getElem hi, Option.map_some, Option.getD_some, List.getElem_map]
      exact (h3 _ (List.getElem_mem hi)).strs
    · simp only [List.length_map] at hi
      obtain ⟨e1, e2⟩ := dirCells_at ps i hi
      rw [← htk, List.getElem?_take, if_pos (by omega)] at e1 e2
      simp only [World.cell?, hg, Nat.zero_add, List.getElem?_eq_getElem hi, Option.map_some, Option.getD_some, List.getElem_map]
      exact ⟨by simpa using e1, by simpa using e2⟩
end Go.Proofs.YtfaomejdoljfnaaDoor
