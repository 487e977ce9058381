/-
  What is proved: the reference's cutting at a byte, its directives of a text, its policies of a header's value: contracts. Condition: texts of at most 100000 bytes.
-/
import Derived.Test.YtfaomejdoljfnaaDoorPls
import Derived.Test.YtfaomejdoljfnaaDoorAscR
import Derived.Test.YtfaomejdoljfnaaDoorAtF
import Derived.Deep.RegionHeldLaw
import Derived.Deep.AppendLies
namespace Go.Proofs.YtfaomejdoljfnaaDoor
open Go.RowKit

theorem StrsB.blk {w : World} {b off n cap : Nat} {x : List UInt8} {l : List (List UInt8)} (h : StrsB w (.slice (some ⟨b, off, none⟩) n cap) (x :: l)) : ∃ cs fz, w.heap[b]? = some (.cells cs 9 fz) := by
  obtain ⟨a, c, e, _, _, h4⟩ := h
  rcases h4 with h4 | ⟨b', off', cs, fz, e2, hb, _⟩
  · cases h4
  · subst e2
    simp only [Value.slice.injEq, Option.some.injEq, Addr.mk.injEq, and_true] at e
    obtain ⟨⟨rfl, rfl⟩, _⟩ := e
    exact ⟨cs, fz, hb⟩
/-- 'append(b, Directive{..})' at a step of a region that draws its order. -/
theorem step_app_dir {ops : Array Oper} {o : Oper} {a : Act} {K : Act → World → Prop} {Q : Exit → Act → World → Prop} {E : Prop} {w : World} (hgd : o.guard = none) (s x : Operand)
    (ho : o.op = .call { callee := .builtin .append, args := #[s, x], argTypes := #[32, 32] })
    {B : Nat} {v : Value} {l : List Dir} (d : Dir) (n : ByteArray) (u : Value) (W : World) (hs : a.eval s = v) (hw : w = W.alloc (.cells #[.string n, u] 42)) (hn : n = ⟨⟨d.name⟩⟩) (hown : OwnD B v l W) (hu : StrsB W u d.vals) (hnl : d.name.length ≤ maxLen)
    (hx : a.eval x = .slice (some ⟨W.heap.size, 0, none⟩) 1 1) (hlen : l.length + 1 ≤ 1000000000) (hbase : B ≤ W.heap.size)
    (h : ∀ (g cap : Nat) (w' : World), OwnD B (.slice (some ⟨g, 0, none⟩) (l.length + 1) cap) (l ++ [d]) w' → Below B W w' → (∀ (b : Nat) (cs : Array Value) (fz : Nat × Nat), W.heap[b]? = some (Obj.cells cs 9 fz) → w'.heap[b]? = W.heap[b]?) → K (a.put o.dst (.slice (some ⟨g, 0, none⟩) (l.length + 1) cap)) w') :
    if Region.wanted o (yielded ops a.tmps) = true then Oper.wp Tryd.prog o a w K Q else E := by
  obtain ⟨i0, hi, hz0, hz1, hz2⟩ := info_parts Tryd.infoDir
  obtain ⟨ps, rfl, h2, h3, h4⟩ := hown
  subst hn hw
  have hone : u.oneCell' = true := by
    obtain ⟨a', cap', e, _⟩ := hu
    subst e
    rfl
  have hps : (ps.map (·.1)).length = ps.length := by simp
  rw [hps] at hlen h
  have hr : ∀ g cs fz, v.ownBlock = some g → W.heap[g]? ≠ some (.cells cs 9 fz) := by
    intro g cs fz hg he
    rcases h2.2 with ⟨rfl, _⟩ | ⟨g', cap, cur, rfl, _, hh, _⟩
    · simp [Value.ownBlock] at hg
    · simp [Value.ownBlock] at hg
      subst hg
      rw [hh] at he
      simp at he
  refine step_append_lies _ hgd s x 32 ho B 42 i0 _ 2 40 Tryd.underlying32 hi hz0 hz1 hz2 rfl (by decide) v ps.length (dirCells ps) hs (World.ownsRow.alloc h2 _) ⟨W.heap.size, 0, none⟩ 1 1 [.string ⟨⟨d.name⟩⟩, u] hx rfl (World.news_of_block (heap_alloc_new W _)) ?_ (by decide) (by unfold maxLen; omega) (by omega) (by simp; omega) _ rfl ?_
  · intro y hy
    simp at hy
    rcases hy with rfl | rfl
    · rfl
    · exact hone
  · intro g cap w' g1 g2 _ _
    have g3 := grown_trans_alloc g2
    refine h g cap w' ⟨ps ++ [(d, u)], by simp, ?_, ?_, ?_⟩ (below_grown (Below.refl _ _) hbase h2 g3) (fun b cs fz hb => g3.block b (lt_of_block hb) (fun e => hr b cs fz e.symm hb))
    · rw [dirCells_app, List.length_append]
      exact g1
    · intro p hp
      rcases List.mem_append.1 hp with hp | hp
      · exact (h3 p hp).grown g3 hr
      · simp at hp
        subst hp
        exact hu.grown g3 hr
    · intro e he
      rcases List.mem_append.1 he with he | he
      · exact h4 e he
      · simp at he
        subst he
        exact hnl
end Go.Proofs.YtfaomejdoljfnaaDoor
