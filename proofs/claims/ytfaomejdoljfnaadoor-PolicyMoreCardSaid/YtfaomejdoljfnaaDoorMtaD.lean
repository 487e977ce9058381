/-
  What is proved: slices.DeleteFunc at directives, by the names that only headers may have: a contract. Condition: lists of at most a million, of the call's own.
-/
import Derived.Test.YtfaomejdoljfnaaDoorMtaC
import Derived.Laws.CopyRow
namespace Go.Proofs.YtfaomejdoljfnaaDoor
open Go.RowKit

/-- All stands but block g. -/
structure KeepG (W : World) (g : Nat) (w : World) : Prop where
  os : w.os = W.os
  tape : w.tape = W.tape
  output : w.output = W.output
  size : W.heap.size ≤ w.heap.size
  block : ∀ b, b < W.heap.size → b ≠ g → w.heap[b]? = W.heap[b]?
theorem KeepG.refl (W : World) (g : Nat) : KeepG W g W := ⟨rfl, rfl, rfl, Nat.le_refl _, fun _ _ _ => rfl⟩
theorem KeepG.ext {W w w' : World} {g : Nat} (h : KeepG W g w) (k : Ext w w') : KeepG W g w' :=
  ⟨k.os.trans h.os, k.tape.trans h.tape, k.output.trans h.output, Nat.le_trans h.size k.size, fun b hb hg => (k.block b (Nat.lt_of_lt_of_le hb h.size)).trans (h.block b hb hg)⟩
theorem KeepG.set {W w : World} {g : Nat} (h : KeepG W g w) (i : Nat) (v : Value) : KeepG W g (w.setCell ⟨g, i, none⟩ v) :=
  ⟨h.os, h.tape, h.output, by rw [World.size_setCell]; exact h.size, fun b hb hg => (Below.heap_setCell w ⟨g, i, none⟩ v b hg).trans (h.block b hb hg)⟩
theorem KeepG.row {W w : World} {g : Nat} (h : KeepG W g w) (cs : Array Value) : KeepG W g (w.setRow g cs) :=
  ⟨h.os, h.tape, h.output, by rw [setRow_size]; exact h.size, fun b hb hg => (setRow_other w g b cs hg).trans (h.block b hb hg)⟩
theorem KeepG.below {W w : World} {g : Nat} (h : KeepG W g w) {W0 : World} (h0 : Ext W0 W) (hg : W0.heap.size ≤ g) : Ext W0 w :=
  ⟨h.os.trans h0.os, h.tape.trans h0.tape, h.output.trans h0.output, Nat.le_trans h0.size h.size, fun b hb => (h.block b (Nat.lt_of_lt_of_le hb h0.size) (by omega)).trans (h0.block b hb)⟩
theorem KeepG.strs {W w : World} {g : Nat} (h : KeepG W g w) {v : Value} {l : List (List UInt8)} (hs : StrsB W v l) {cur : Array Value} {fz : Nat × Nat} (hg : W.heap[g]? = some (.cells cur 42 fz)) : StrsB w v l := by
  obtain ⟨a, cap, h1, h2, h3, h4⟩ := hs
  refine ⟨a, cap, h1, h2, h3, ?_⟩
  rcases h4 with h4 | ⟨b, off, cs, fz', e, hb, hc⟩
  · exact .inl h4
  · refine .inr ⟨b, off, cs, fz', e, (h.block b (lt_of_block hb) (fun e => ?_)).trans hb, hc⟩
    subst e
    rw [hg] at hb
    simp at hb
/-- What the row holds in the midst: what is kept at its front, what is to come behind. -/
structure DelS (W : World) (g n : Nat) (ps ks : List (Dir × Value)) (j : Nat) (w : World) : Prop where
  keep : KeepG W g w
  row : ∃ cur, w.heap[g]? = some (.cells cur 42 (0, 0)) ∧ n * 2 ≤ cur.size ∧
    (∀ q (h : q < ks.length), cur[q * 2]? = some (.string ⟨⟨ks[q].1.name⟩⟩) ∧ cur[q * 2 + 1]? = some ks[q].2) ∧
    (∀ q (h : q < ps.length), j ≤ q → cur[q * 2]? = some (.string ⟨⟨ps[q].1.name⟩⟩) ∧ cur[q * 2 + 1]? = some ps[q].2)
theorem DelS.ext {W w w' : World} {g n j : Nat} {ps ks : List (Dir × Value)} (h : DelS W g n ps ks j w) (k : Ext w w') : DelS W g n ps ks j w' := by
  refine ⟨h.keep.ext k, ?_⟩
  obtain ⟨cur, h1, h2, h3, h4⟩ := h.row
  exact ⟨cur, (k.block g (lt_of_block h1)).trans h1, h2, h3, h4⟩
theorem DelS.skip {W w : World} {g n j : Nat} {ps ks : List (Dir × Value)} (h : DelS W g n ps ks j w) : DelS W g n ps ks (j + 1) w := by
  refine ⟨h.keep, ?_⟩
  obtain ⟨cur, h1, h2, h3, h4⟩ := h.row
  exact ⟨cur, h1, h2, h3, fun q hq hj => h4 q hq (by omega)⟩
theorem setCell_row {w : World} {g k : Nat} {cur : Array Value} {t : TypeId} {fz : Nat × Nat} (h : w.heap[g]? = some (.cells cur t fz)) (v : Value) : (w.setCell ⟨g, k, none⟩ v).heap[g]? = some (.cells (cur.setIfInBounds k v) t fz) := by
  simp [World.setCell, Array.getElem?_modify, h]
theorem DelS.move {W w : World} {g n j : Nat} {ps ks : List (Dir × Value)} (h : DelS W g n ps ks j w) (hj : j < ps.length) (hn : ps.length ≤ n) (hk : ks.length < j) (p : Dir × Value) :
    DelS W g n ps (ks ++ [p]) (j + 1) ((w.setCell ⟨g, ks.length * 2, none⟩ (.string ⟨⟨p.1.name⟩⟩)).setCell ⟨g, ks.length * 2 + 1, none⟩ p.2) := by
  refine ⟨(h.keep.set _ _).set _ _, ?_⟩
  obtain ⟨cur, h1, h2, h3, h4⟩ := h.row
  refine ⟨_, setCell_row (setCell_row h1 _) _, by simpa using h2, fun q hq => ?_, fun q hq hjq => ?_⟩
  · by_cases e : q = ks.length
    · subst e
      simp only [Array.getElem?_setIfInBounds, List.getElem_concat_length]
      constructor
      · simp; omega
      · simp; omega
    · have hq2 : q < ks.length := by simp at hq; omega
      obtain ⟨a1, a2⟩ := h3 q hq2
      simp only [Array.getElem?_setIfInBounds, List.getElem_append_left hq2]
      rw [if_neg (by omega), if_neg (by omega), if_neg (by omega), if_neg (by omega)]
      exact ⟨a1, a2⟩
  · obtain ⟨a1, a2⟩ := h4 q hq (by omega)
    simp only [Array.getElem?_setIfInBounds]
    rw [if_neg (by omega), if_neg (by omega), if_neg (by omega), if_neg (by omega)]
    exact ⟨a1, a2⟩
theorem DelS.cells {W w : World} {g n j : Nat} {ps ks : List (Dir × Value)} (h : DelS W g n ps ks j w) (q : Nat) (hq : q < ps.length) (hj : j ≤ q) : w.cell? ⟨g, q * 2, none⟩ = some (.string ⟨⟨ps[q].1.name⟩⟩) ∧ w.cell? ⟨g, q * 2 + 1, none⟩ = some ps[q].2 := by
  obtain ⟨cur, h1, _, _, h4⟩ := h.row
  simp only [World.cell?, h1]
  simpa using h4 q hq hj
theorem DelS.there {W w : World} {g n j : Nat} {ps ks : List (Dir × Value)} (h : DelS W g n ps ks j w) (i : Nat) (hi : i < n * 2) : ∃ v, w.cell? ⟨g, i, none⟩ = some v := by
  obtain ⟨cur, h1, h2, _, _⟩ := h.row
  refine ⟨cur[i]'(by omega), ?_⟩
  simp only [World.cell?, h1]
  simp
theorem DelS.free {W w : World} {g n j : Nat} {ps ks : List (Dir × Value)} (h : DelS W g n ps ks j w) (i : Nat) : w.frozen? ⟨g, i, none⟩ = false := by
  obtain ⟨cur, h1, _⟩ := h.row
  simp only [World.frozen?, h1]
  simp
/-- What is kept reads so. -/
theorem DelS.dirs {W w : World} {g n j : Nat} {ps ks : List (Dir × Value)} (h : DelS W g n ps ks j w) (hks : ∀ p ∈ ks, StrsB W p.2 p.1.vals ∧ p.1.name.length ≤ maxLen) (hm : ks.length ≤ maxLen) {cur : Array Value} {fz : Nat × Nat} (hg : W.heap[g]? = some (.cells cur 42 fz)) (cap : Nat) : DirsAt w (.slice (some ⟨g, 0, none⟩) ks.length cap) (ks.map (·.1)) := by
  obtain ⟨cur2, h1, _, h3, _⟩ := h.row
  refine ⟨some ⟨g, 0, none⟩, cap, fun i => (ks[i]?.map (·.2)).getD default, by simp, by simpa using hm, fun i hi => ?_, fun d hd => ?_, .inr ⟨g, 0, rfl, lt_of_block h1, fun i hi => ?_⟩⟩
  · simp only [List.length_map] at hi
    simp only [List.getElem?_eq_getElem hi, Option.map_some, Option.getD_some, List.getElem_map]
    exact (h.keep.strs (hks _ (List.getElem_mem hi)).1 hg).strs
  · obtain ⟨p, hp, rfl⟩ := List.mem_map.1 hd
    exact (hks p hp).2
  · simp only [List.length_map] at hi
    simp only [World.cell?, h1, Nat.zero_add, List.getElem?_eq_getElem hi, Option.map_some, Option.getD_some, List.getElem_map]
    simpa using h3 i hi
theorem clear_dirs (w : World) (g o n c : Nat) (cur : Array Value) (hg : w.heap[g]? = some (.cells cur 42 (0, 0))) (hb : o + n * 2 ≤ cur.size) (hn : 0 < n) :
    ∃ cs : Array Value, (∀ ty, (Builtin.clear_ #[32] ty #[.slice (some ⟨g, o, none⟩) n c]).run Tryd.prog w = .ok (.tuple #[]) (w.setRow g cs)) ∧ cs.size = cur.size ∧ ∀ i, i < o → cs[i]? = cur[i]? := by
  have hz : (Builtin.zeroCells (Value.agg #[.string ByteArray.empty, .slice none 0 0]).cells n).toList.length = n * 2 := by simp [Builtin.zeroCells, Value.cells]
  have h1 : ∀ v ∈ (Builtin.zeroCells (Value.agg #[.string ByteArray.empty, .slice none 0 0]).cells n).toList, v.oneCell' = true := by
    intro v hv
    simp only [Builtin.zeroCells, Array.toList_map, List.mem_map, Value.cells] at hv
    obtain ⟨i, _, rfl⟩ := hv
    have hi : i % 2 = 0 ∨ i % 2 = 1 := by omega
    rcases hi with hi | hi <;> simp [hi, Value.oneCell']
  obtain ⟨Z, hZ⟩ : ∃ Z, (Builtin.zeroCells (Value.agg #[.string ByteArray.empty, .slice none 0 0]).cells n).toList = Z := ⟨_, rfl⟩
  rw [hZ] at hz h1
  have hst := run_storeCells_at (P := Tryd.prog) g o 42 Z 0 cur w hg (by rw [hz]; omega) h1
  refine ⟨(cur.toList.take (o + 0) ++ Z ++ cur.toList.drop (o + 0 + Z.length)).toArray, ?_, ?_, ?_⟩
  · intro ty
    obtain ⟨m, rfl⟩ : ∃ m, n = m + 1 := ⟨n - 1, by omega⟩
    have hZ2 : (Builtin.zeroCells (Value.agg #[.string ⟨#[]⟩, .slice none 0 0]).cells (m + 1)).toList = Z := hZ
    simp [Builtin.clear_, run_underlying Tryd.underlying32, Tryd.zeroValue42, hZ2, hst]
  · simp [hz]
    omega
  · intro i hi
    simp only [List.getElem?_toArray, List.append_assoc, Nat.add_zero]
    rw [List.getElem?_append_left (by simp; omega), List.getElem?_take, if_pos hi]
    simp
theorem idxG_spec {α : Type} (p : α → Bool) : ∀ (l : List α) (z : Int), (idxG p l z = -1 ∧ ∀ x ∈ l, p x = false) ∨ ∃ (k : Nat) (h : k < l.length), idxG p l z = z + (k : Int) ∧ p l[k] = true ∧ ∀ j (hj : j < l.length), j < k → p l[j] = false
  | [], _ => .inl ⟨rfl, by simp⟩
  | x :: l, z => by
    by_cases h : p x = true
    · refine .inr ⟨0, by simp, ?_, h, fun j _ hj => by omega⟩
      unfold idxG
      rw [if_pos h]
      simp
    · have hx : p x = false := by simpa using h
      have e : idxG p (x :: l) z = idxG p l (z + 1) := by
        show (if p x then z else idxG p l (z + 1)) = _
        rw [if_neg h]
      rcases idxG_spec p l (z + 1) with ⟨h1, h2⟩ | ⟨k, hk, h1, h2, h3⟩
      · refine .inl ⟨e.trans h1, fun y hy => ?_⟩
        rcases List.mem_cons.1 hy with rfl | hy
        · exact hx
        · exact h2 y hy
      · refine .inr ⟨k + 1, by simpa using hk, by rw [e, h1]; simp; omega, by simpa using h2, fun j hj hjk => ?_⟩
        cases j with
        | zero => exact hx
        | succ j => exact h3 j (by simpa using hj) (by omega)
/-- What the loop keeps. -/
def keepP (ps : List (Dir × Value)) : List (Dir × Value) := ps.filter fun p => !isH p.1
theorem keepP_take {ps : List (Dir × Value)} {j : Nat} (h : j < ps.length) : keepP (ps.take (j + 1)) = if isH ps[j].1 then keepP (ps.take j) else keepP (ps.take j) ++ [ps[j]] := by
  unfold keepP
  rw [List.take_succ_eq_append_getElem h, List.filter_append]
  cases hh : isH ps[j].1 <;> simp [hh]
theorem keepP_len (ps : List (Dir × Value)) (j : Nat) : (keepP (ps.take j)).length ≤ j := by
  have h1 := List.length_filter_le (fun p : Dir × Value => !isH p.1) (ps.take j)
  have h2 := List.length_take_le j ps
  unfold keepP
  omega
theorem keepP_map (ps : List (Dir × Value)) : (keepP ps).map (·.1) = metaL (ps.map (·.1)) := by
  unfold keepP metaL isH
  rw [List.filter_map]
  rfl
theorem meta_none {ds : List Dir} (h : ∀ d ∈ ds, isH d = false) : metaL ds = ds := by
  unfold metaL
  rw [List.filter_eq_self]
  intro d hd
  have := h d hd
  unfold isH at this
  rw [this]
  rfl
theorem keepP_first {ps : List (Dir × Value)} {k : Nat} (h : ∀ j (hj : j < ps.length), j < k → isH ps[j].1 = false) : keepP (ps.take k) = ps.take k := by
  unfold keepP
  rw [List.filter_eq_self]
  intro p hp
  obtain ⟨j, hj, rfl⟩ := List.getElem_of_mem hp
  rw [List.length_take] at hj
  rw [List.getElem_take, h j (by omega) (by omega)]
  rfl
set_option maxHeartbeats 8000000 in
theorem delete_any {B : Nat} (v : Value) (ds : List Dir) (w : World) (H : OwnD B v ds w) (hB : B ≤ w.heap.size) (hl : ds.length ≤ 1000000) {W0 : World} (h0 : Ext W0 w) (hW0 : W0.heap.size ≤ B) :
    Calls Tryd.prog 17 #[v, .func (.func 18) #[] #[]] w fun e w' => ∃ a cap, e = .returned (.slice a (metaL ds).length cap) ∧ DirsAt w' (.slice a (metaL ds).length cap) (metaL ds) ∧ Ext W0 w' := by
  have hda := H.dirs (by unfold maxLen; omega)
  have ci := indexFunc_meta v ds w hda hl
  rcases idxG_spec isH ds 0 with ⟨hi, hf⟩ | ⟨k0, hk0, hi, hf, hfirst⟩
  · rw [hi] at ci
    obtain ⟨a, cap, rfl⟩ := H.len
    have HM := Lib.hid (meta_none hf)
    clear hi hf
    go_enter Tryd.func17, Tryd.ntmps17
    go_wp2_with fail
    refine ci.mono ?_
    rintro e w1 ⟨rfl, x1⟩
    go_wp2_with fail
    go_ret
    rw [HM.out]
    exact ⟨a, cap, rfl, hda.ext x1, Ext.trans h0 x1⟩
  · rw [hi, Int.zero_add] at ci
    obtain ⟨ps, rfl, ⟨hpl, hrow⟩, hst, hnm⟩ := H
    simp only [List.length_map] at hl hk0
    rcases hrow with ⟨rfl, h00⟩ | ⟨g, cap, cur, rfl, hBg, hg, hcap, hcm, hcs, htk⟩
    · omega
    · simp only [List.getElem_map, List.length_map] at hf hfirst
      have hks0 : keepP (ps.take (k0 + 1)) = ps.take k0 := by
        rw [keepP_take hk0, if_pos hf, keepP_first hfirst]
      have hk0l : (ps.take k0).length = k0 := by rw [List.length_take]; omega
      have hat : ∀ q (h : q < ps.length), cur[q * 2]? = some (.string ⟨⟨ps[q].1.name⟩⟩) ∧ cur[q * 2 + 1]? = some ps[q].2 := by
        intro q hq
        obtain ⟨e1, e2⟩ := dirCells_at ps q hq
        rw [← htk, List.getElem?_take, if_pos (by omega)] at e1 e2
        exact ⟨by simpa using e1, by simpa using e2⟩
      have hD0 : DelS w g ps.length ps (ps.take k0) (k0 + 1) w := by
        refine ⟨KeepG.refl _ _, cur, hg, by omega, fun q hq => ?_, fun q hq _ => hat q hq⟩
        rw [hk0l] at hq
        rw [List.getElem_take]
        exact hat q (by omega)
      have hgl := lt_of_block hg
      have HG := Lib.hid hg
      have HD0 := Lib.hid hD0
      have HK0 := Lib.hid hks0
      have HKL := Lib.hid hk0l
      have HST := Lib.hid hst
      have HNM := Lib.hid hnm
      have H0 := Lib.hid h0
      have hneg : ((k0 : Int) == -1) = false := beq_eq_false_iff_ne.2 (by omega)
      have k00 : (0 : Int) ≤ (k0 : Int) := by omega
      clear hg hD0 hks0 hst hnm h0 hat htk hf hfirst hcs hk0l hi hda hpl
      go_enter Tryd.func17, Tryd.ntmps17
      go_wp2_with fail
      refine ci.mono ?_
      rintro e w1 ⟨rfl, x1⟩
      go_wp2_with fail
      go_loopw [5, 6] (fun iv jv wr => ∃ (j i : Nat) (ks : List (Dir × Value)), jv = .int .i64 j ∧ iv = .int .i64 i ∧ j ≤ ps.length ∧ i < j ∧ Hid (ks.length = i) ∧ Hid (ks = keepP (ps.take j)) ∧ DelS w g ps.length ps ks j wr) (fun _ jv _ => ps.length - (intOf jv).toNat)
      case atStart => exact ⟨k0 + 1, k0, ps.take k0, by go_num, rfl, by omega, by omega, HKL, Lib.hid HK0.out.symm, HD0.out.ext x1⟩
      case round =>
        obtain ⟨j, i, ks, rfl, rfl, hj, hij, HI, HK, hD⟩ := hrel
        have j0 : (0 : Int) ≤ (j : Int) := by omega
        have i0 : (0 : Int) ≤ (i : Int) := by omega
        have hgr : g < wr.heap.size := Nat.lt_of_lt_of_le hgl hD.keep.size
        by_cases hlt : j < ps.length
        · have j1 : (j : Int) < (ps.length : Int) := by omega
          have i1 : (i : Int) < (ps.length : Int) := by omega
          have hKT := keepP_take hlt
          have hmv := fun (W' : World) (D : DelS w g ps.length ps ks j W') => D.move hlt (Nat.le_refl _) (by rw [HI.out]; exact hij) ps[j]
          obtain ⟨c1, c2⟩ := hD.cells j hlt (Nat.le_refl _)
          have hst := HST.out ps[j] (List.getElem_mem hlt)
          obtain ⟨⟨d, u⟩, hp⟩ : ∃ p, ps[j] = p := ⟨_, rfl⟩
          rw [hp] at c1 c2 hst hKT hmv
          obtain ⟨ua, uc, hu, _⟩ := hst
          have hu : u = .slice ua d.vals.length uc := hu
          subst hu
          rw [← HK.out] at hKT
          have HKT := Lib.hid hKT
          have HMV := Lib.hid hmv
          have xa : Ext wr (wr.alloc (.cells #[.string ⟨⟨d.name⟩⟩, .slice ua d.vals.length uc] 42)) := (Below.refl _ _).alloc (Nat.le_refl _) _
          have hDa := hD.ext xa
          have cc := fun W => closure_meta d.name (.slice ua d.vals.length uc) W
          clear hp hKT hmv xa
          cases hq : hdrB d.name
          · have HQ : Hid (isH d = false) := Lib.hid hq
            rw [hq] at cc
            clear hq
            go_wp2_with (go_at_call 18; refine (cc _).mono ?_; rintro e w2 ⟨rfl, x2⟩; have D2 := hDa.ext x2; have n0 := (x2.cell (p := ⟨wr.heap.size, 0, none⟩) (by simp)).trans (cells_of_lit (heap_alloc_new wr _) 0); have n1 := (x2.cell (p := ⟨wr.heap.size, 1, none⟩) (by simp)).trans (cells_of_lit (heap_alloc_new wr _) 1); simp at n0 n1; obtain ⟨y0, t0⟩ := D2.there (i * 2) (by omega); obtain ⟨y1, t1⟩ := D2.there (i * 2 + 1) (by omega); have f0 := D2.free (i * 2); have f1 := D2.free (i * 2 + 1); have hne : ¬ g = wr.heap.size := (by omega))
            go_roundw
            case rel => exact ⟨j + 1, i + 1, ks ++ [(d, .slice ua d.vals.length uc)], by go_num, by go_num, by omega, by omega, Lib.hid (by rw [List.length_append, HI.out]; rfl), Lib.hid (by rw [HKT.out, if_neg (by rw [HQ.out]; simp)]), (by have := HMV.out _ D2; rw [HI.out] at this; exact this)⟩
            case measure => simp [intOf]; omega
          · have HQ : Hid (isH d = true) := Lib.hid hq
            rw [hq] at cc
            clear hq
            go_wp2_with (go_at_call 18; refine (cc _).mono ?_; rintro e w2 ⟨rfl, x2⟩; have D2 := hDa.ext x2)
            go_roundw
            case rel => exact ⟨j + 1, i, ks, by go_num, rfl, by omega, by omega, HI, Lib.hid (by rw [HKT.out, if_pos HQ.out]), D2.skip⟩
            case measure => simp [intOf]; omega
        · obtain rfl : j = ps.length := by omega
          obtain ⟨cur2, h1, h2, h3, _⟩ := hD.row
          obtain ⟨cs, hcl, hcs2, hsame⟩ := clear_dirs wr g (i * 2) (ps.length - i) (cap - i) cur2 h1 (by omega) (by omega)
          have hDF : DelS w g ps.length ps ks ps.length (wr.setRow g cs) := by
            refine ⟨hD.keep.row cs, cs, setRow_heap wr g cur2 cs _ _ h1, by omega, fun q hq => ?_, fun q hq hqq => by omega⟩
            rw [HI.out] at hq
            rw [hsame _ (by omega), hsame _ (by omega)]
            exact h3 q (by rw [HI.out]; exact hq)
          have HDF := Lib.hid hDF
          have HKF : Hid (ks = keepP ps) := Lib.hid (by rw [HK.out, List.take_length])
          have i1 : (i : Int) < (ps.length : Int) := by omega
          have i2 : (i : Int) ≤ (ps.length : Int) := by omega
          have i3 : (i : Int) ≤ (cap : Int) := by omega
          unfold maxLen at hcm
          have HCM := Lib.hid hcm
          clear h1 h2 h3 hcs2 hsame hDF
          have HML : Hid (ks.map (·.1) = metaL (ps.map (·.1))) := Lib.hid (by rw [HKF.out, keepP_map])
          have hdir := HDF.out.dirs (fun p hp => by
            rw [HKF.out] at hp
            have hpm := (List.mem_filter.1 hp).1
            exact ⟨HST.out p hpm, HNM.out p.1 (List.mem_map.2 ⟨p, hpm, rfl⟩)⟩) (by rw [HI.out]; unfold maxLen; omega) HG.out cap
          rw [HI.out] at hdir
          have HDIR := Lib.hid hdir
          clear hdir
          go_wp2_with fail
          go_ret
          rw [← HML.out, List.length_map, HI.out]
          exact ⟨_, _, rfl, HDIR.out, HDF.out.keep.below H0.out (by omega)⟩
end Go.Proofs.YtfaomejdoljfnaaDoor
