/-
  What is proved: which directive of a policy counts for an item of a kind: chains.Find, by slices.IndexFunc and its closure: a contract. Condition: lists of at most a million.
-/
import Derived.Test.YtkofccabfkkgjaaDoorChnR
namespace Go.Proofs.YtkofccabfkkgjaaDoor
open Go.RowKit

/-- No more than a million each. -/
structure SmallD (ds : List Dir) : Prop where
  len : ds.length ≤ 1000000
  each : ∀ d ∈ ds, d.vals.length ≤ 1000000
theorem SmallD.found {ds : List Dir} (h : SmallD ds) {n : List UInt8} {d : Dir} (hf : findD ds n = some d) : d.vals.length ≤ 1000000 := h.each d (List.mem_of_find?_eq_some hf)
/-- A policy in two cells. -/
structure PolCell (w : World) (b : Nat) (a : Option Addr) (n cap : Nat) (rep : Bool) (ds : List Dir) : Prop where
  lst : w.cell? ⟨b, 0, none⟩ = some (.slice a n cap)
  rep : w.cell? ⟨b, 1, none⟩ = some (.bool rep)
  dirs : DirsAt w (.slice a n cap) ds
theorem PolCell.ext {w w' : World} {b : Nat} {a : Option Addr} {n cap : Nat} {rep : Bool} {ds : List Dir} (h : PolCell w b a n cap rep ds) (k : Below w.heap.size w w') : PolCell w' b a n cap rep ds :=
  ⟨(k.cell (p := ⟨b, 0, none⟩) (cell_lt h.lst)).trans h.lst, (k.cell (p := ⟨b, 1, none⟩) (cell_lt h.rep)).trans h.rep, h.dirs.ext k⟩
set_option maxHeartbeats 2000000 in
theorem closure_find (s : List UInt8) (b : Nat) (a : Option Addr) (n cap : Nat) (rep : Bool) (ds : List Dir) (w : World) (H : PolCell w b a n cap rep ds) (hs : SmallD ds) :
    Calls Tryd.prog 32 #[.string ⟨⟨s⟩⟩, .pointer (some ⟨b, 0, none⟩)] w fun e w' => e = .returned (.bool (findD ds s).isSome) ∧ Ext w w' := by
  have c0 := H.lst
  have c1 := H.rep
  cases hf : findD ds s with
  | none =>
    have cf := find_none (.slice a n cap) rep ds s w H.dirs hs.len hf
    clear hf
    go_enter Tryd.func32, Tryd.ntmps32
    go_wp2_with (go_at_call 33; refine cf.mono ?_; rintro e w1 ⟨rfl, hx1⟩)
    go_ret
    exact ⟨rfl, hx1.alloc hx1.size _⟩
  | some d =>
    have cf := find_some (.slice a n cap) rep ds s d w H.dirs hs.len (hs.found hf) hf
    clear hf
    go_enter Tryd.func32, Tryd.ntmps32
    go_wp2_with (go_at_call 33; refine cf.mono ?_; rintro e w1 ⟨u, rfl, hown, hx1⟩; obtain ⟨au, cu, rfl⟩ := own_form hown)
    go_ret
    exact ⟨rfl, hx1.alloc hx1.size _⟩
theorem StrsAt.cells {w : World} {v : Value} {l : List (List UInt8)} (h : StrsAt w v l) : ∃ a cap, v = .slice a l.length cap ∧ ∀ k (hk : k < l.length), ∃ b off, a = some ⟨b, off, none⟩ ∧ b < w.heap.size ∧ w.cell? ⟨b, off + k, none⟩ = some (.string ⟨⟨l[k]⟩⟩) := by
  obtain ⟨a, cap, e1, _, _, e4⟩ := h
  refine ⟨a, cap, e1, fun k hk => ?_⟩
  rcases e4 with rfl | ⟨b, off, e, hb, hc⟩
  · simp at hk
  · exact ⟨b, off, e, hb, hc k hk⟩
theorem DirsAt.vals {w : World} {v : Value} {ds : List Dir} (h : DirsAt w v ds) {d : Dir} (hd : d ∈ ds) : d.vals.length ≤ maxLen ∧ ∀ s ∈ d.vals, s.length ≤ maxLen := by
  obtain ⟨a, cap, us, _, _, h3, _, _⟩ := h
  obtain ⟨i, hi, rfl⟩ := List.getElem_of_mem hd
  obtain ⟨_, _, _, h1, h2, _⟩ := h3 i hi
  exact ⟨h1, h2⟩
def hasF (ds : List Dir) (s : List UInt8) : Bool := (findD ds s).isSome
set_option maxHeartbeats 2000000 in
theorem indexFunc_str (v : Value) (l : List (List UInt8)) (b : Nat) (a0 : Option Addr) (n0 cap0 : Nat) (rep : Bool) (ds : List Dir) (w : World) (H : StrsAt w v l) (hl : l.length ≤ 1000000) (HP : PolCell w b a0 n0 cap0 rep ds) (hs : SmallD ds) :
    Calls Tryd.prog 31 #[v, .func (.func 32) #[] #[.pointer (some ⟨b, 0, none⟩)]] w fun e w' => e = .returned (.int .i64 (idxG (hasF ds) l 0)) ∧ Ext w w' := by
  obtain ⟨a, cap, rfl, hcells⟩ := H.cells
  have HC := Lib.hid hcells
  clear hcells H
  go_enter Tryd.func31, Tryd.ntmps31
  go_wp2_with fail
  go_loopw [5, 8] (fun _ i wr => ∃ k : Nat, i = .int .i64 k ∧ k ≤ l.length ∧ Ext w wr ∧ Hid (∀ j (hj : j < l.length), j < k → hasF ds l[j] = false)) (fun _ i _ => l.length - (intOf i).toNat)
  case atStart => exact ⟨0, rfl, by omega, Ext.refl w, Lib.hid (fun j _ hj => by omega)⟩
  case round =>
    obtain ⟨k, rfl, hk, hx, HN⟩ := hrel
    by_cases hlt : k < l.length
    · obtain ⟨b2, off, rfl, hb2, c1⟩ := HC.out k hlt
      have c1' := (hx.cell (p := ⟨b2, off + k, none⟩) hb2).trans c1
      have cl := fun x => closure_find x b a0 n0 cap0 rep ds wr (HP.ext hx) hs
      have hk1 : (k : Int) < (l.length : Int) := by omega
      clear c1 HC
      obtain ⟨x, hxx⟩ : ∃ x, l[k] = x := ⟨_, rfl⟩
      have HX := Lib.hid hxx
      rw [hxx] at c1'
      clear hxx
      cases hq : hasF ds x
      · have HQ := Lib.hid hq
        have cl := cl x
        rw [show (findD ds x).isSome = false from hq] at cl
        clear hq
        go_wp2_with (go_at_call 32; refine cl.mono ?_; rintro e w1 ⟨rfl, hx1⟩)
        go_roundw
        case rel =>
          refine ⟨k + 1, by go_num, by omega, hx.trans hx1, Lib.hid (fun j h hj => ?_)⟩
          by_cases e : j = k
          · subst e
            exact (congrArg (hasF ds) HX.out).trans HQ.out
          · exact HN.out j h (by omega)
        case measure => simp [intOf]; omega
      · have HQ := Lib.hid hq
        have cl := cl x
        rw [show (findD ds x).isSome = true from hq] at cl
        clear hq
        go_wp2_with (go_at_call 32; refine cl.mono ?_; rintro e w1 ⟨rfl, hx1⟩)
        go_ret
        refine ⟨ret_inj (int_eq ?_), hx.trans hx1⟩
        rw [idxG_hit (hasF ds) l k hlt 0 (fun j hj => HN.out j (by omega) hj) ((congrArg (hasF ds) HX.out).trans HQ.out)]
        omega
    · have hkl : k = l.length := by omega
      subst hkl
      go_wp2_with fail
      go_ret
      refine ⟨ret_inj (int_eq ?_), hx⟩
      rw [idxG_miss (hasF ds) l 0 (fun j hj => HN.out j hj hj)]
theorem each_max {L : List (List UInt8)} (h : ∀ x ∈ L, x.length ≤ 1000) : ∀ x ∈ L, x.length ≤ maxLen := fun x hx => by
  have := h x hx
  unfold maxLen
  omega
/-- A directive that is handed back, or none. -/
def DirV (w : World) (x : Value) : Option Dir → Prop
  | none => x = .agg #[.string ⟨⟨[]⟩⟩, .slice none 0 0]
  | some d => ∃ a cap, x = .agg #[.string ⟨⟨d.name⟩⟩, .slice a d.vals.length cap] ∧ StrsAt w (.slice a d.vals.length cap) d.vals
set_option maxHeartbeats 4000000 in
theorem chainsFind_any (v : Value) (rep : Bool) (ds : List Dir) (k : Int) (w : World) (G : ChG w) (H : DirsAt w v ds) (hs : SmallD ds) :
    Calls Tryd.prog 18 #[.agg #[v, .bool rep], .int .i64 k] w fun e w' => ∃ x, e = .returned (.tuple #[x, .bool (findC ds k).isSome]) ∧ DirV w' x (findC ds k) ∧ Ext w w' := by
  obtain ⟨a, cap, rfl, _⟩ := H.cells
  have hext0 : Ext w ((w.alloc (.cells #[.slice a ds.length cap, .bool rep] 30)).alloc (.cells #[.string ⟨⟨[]⟩⟩, .slice none 0 0] 33)) := ((Below.refl _ _).alloc (Nat.le_refl _) _).alloc (by simp) _
  have HP0 : PolCell ((w.alloc (.cells #[.slice a ds.length cap, .bool rep] 30)).alloc (.cells #[.string ⟨⟨[]⟩⟩, .slice none 0 0] 33)) w.heap.size a ds.length cap rep ds := ⟨cells_of_lit (alloc_two w _ _).1 0, cells_of_lit (alloc_two w _ _).1 1, H.ext hext0⟩
  have ce := effective_any k _ (G.ext hext0)
  cases he : effL k with
  | nil =>
    have HF : Hid (findC ds k = none) := Lib.hid (by unfold findC; rw [if_pos he])
    rw [he] at ce
    clear he
    go_enter Tryd.func18, Tryd.ntmps18
    go_wp2_with (go_at_call 13; refine ce.mono ?_; rintro e w1 ⟨rfl, rfl⟩)
    rw [HF.out]
    exact bodyPost_ret (v := .tuple #[.agg #[.string ⟨⟨[]⟩⟩, .slice none 0 0], .bool false]) (by simp [results, Tryd.results18, go_sem]) rfl ⟨_, rfl, rfl, hext0⟩
  | cons c t =>
    rw [he] at ce
    obtain ⟨N, hN⟩ : ∃ N, c :: t = N := ⟨_, rfl⟩
    have hNe : (N == []) = false := by rw [← hN]; rfl
    rw [hN] at ce he
    obtain ⟨L, hL⟩ : ∃ L, chainL N = L := ⟨_, rfl⟩
    have HF : Hid (findC ds k = L.findSome? (findD ds)) := Lib.hid (by unfold findC; rw [he, hL, if_neg (by rw [← hN]; simp)])
    have hLl : L.length ≤ 4 := by rw [← hL]; exact chain_len N
    have hNl : N.length ≤ 20 := by rw [← he]; exact eff_len k
    have hLe : ∀ x ∈ L, x.length ≤ 1000 := by rw [← hL]; exact chain_each N (by omega)
    have cc := fun W => chain_any N W
    rw [hL] at cc
    clear hN he hL
    rcases findSome_idx ds L 0 with ⟨hi, hf⟩ | ⟨i, hi, d, hz, hd, hf⟩
    · have HI : Hid (idxG (hasF ds) L 0 = -1) := Lib.hid hi
      have HG : Hid (findC ds k = none) := Lib.hid (HF.out.trans hf)
      clear hi hf HF
      rw [HG.out]
      go_enter Tryd.func18, Tryd.ntmps18
      go_wp2_with (first
        | (go_at_call 13; refine ce.mono ?_; rintro e w1 ⟨rfl, rfl⟩)
        | (go_at_call 12; refine (cc _).mono ?_; rintro e w2 ⟨v2, rfl, hown2, hx2⟩)
        | (go_at_call 31; refine (indexFunc_str _ L w.heap.size a ds.length cap rep ds _ (hown2.strs (by unfold maxLen; omega) (each_max hLe)) (by omega) (HP0.ext hx2) hs).mono ?_; rintro e w3 ⟨rfl, hx3⟩; rw [HI.out]; obtain ⟨hc3, hf3⟩ := bcell (Ext.trans hx2 hx3)))
      exact bodyPost_ret (v := .tuple #[.agg #[.string ⟨⟨[]⟩⟩, .slice none 0 0], .bool false]) (by simp [results, Tryd.results18, go_sem, hc3]) rfl ⟨_, rfl, rfl, ((hext0.trans (Ext.trans hx2 hx3)).setCell (by simp) _).setCell (by simp) _⟩
    · have HI : Hid (idxG (hasF ds) L 0 = (i : Int)) := Lib.hid (by have := hz; rw [Int.zero_add] at this; exact this)
      have HG : Hid (findC ds k = some d) := Lib.hid (HF.out.trans hf)
      have k0 : decide ((i : Int) < 0) = false := by simp
      have k1 : (0 : Int) ≤ (i : Int) := by omega
      have k2 : (i : Int) < (L.length : Int) := by omega
      have hvl := hs.found hd
      obtain ⟨x, hx⟩ : ∃ x, L[i] = x := ⟨_, rfl⟩
      rw [hx] at hd
      have HX := Lib.hid hx
      clear hz hf HF hx
      rw [HG.out]
      go_enter Tryd.func18, Tryd.ntmps18
      go_wp2_with (first
        | (go_at_call 13; refine ce.mono ?_; rintro e w1 ⟨rfl, rfl⟩)
        | (go_at_call 12; refine (cc _).mono ?_; rintro e w2 ⟨v2, rfl, hown2, hx2⟩; obtain ⟨a2, cap2, rfl⟩ := own_form hown2)
        | (go_at_call 31; refine (indexFunc_str _ L w.heap.size a ds.length cap rep ds _ (hown2.strs (by unfold maxLen; omega) (each_max hLe)) (by omega) (HP0.ext hx2) hs).mono ?_; rintro e w3 ⟨rfl, hx3⟩; rw [HI.out]; obtain ⟨hc3, hf3⟩ := bcell (Ext.trans hx2 hx3)))
      have HP3 := HP0.ext (Ext.trans hx2 hx3)
      have s1 := HP3.lst
      have s2 := HP3.rep
      obtain ⟨b2, off2, s3⟩ : ∃ b2 off2, a2 = some ⟨b2, off2, none⟩ ∧ b2 < w3.heap.size ∧ w3.cell? ⟨b2, off2 + i, none⟩ = some (.string ⟨⟨x⟩⟩) := by
        obtain ⟨a', c', e', hcl⟩ := ((hown2.strs (by unfold maxLen; omega) (each_max hLe)).ext hx3).cells
        obtain ⟨b2, off2, e2, hb2, hc2⟩ := hcl i hi
        cases e'
        rw [HX.out] at hc2
        exact ⟨b2, off2, e2, hb2, hc2⟩
      obtain ⟨rfl, hb2, s3⟩ := s3
      have hlow := (hown2.lt b2 rfl).1
      simp at hlow
      have g1 := hc3 (w.heap.size + 1) 0 (by simp)
      have g2 := hc3 (w.heap.size + 1) 1 (by simp)
      have g3 := hf3 (w.heap.size + 1) 0 (by simp)
      have g4 := hf3 (w.heap.size + 1) 1 (by simp)
      have gz : w.heap.size + 1 < w3.heap.size := by omega
      simp at g1 g2 g3 g4
      have ne1 : ¬ w.heap.size + 1 = b2 := by omega
      have ne2 : ¬ b2 = w.heap.size + 1 := by omega
      have D3 : DirsAt w3.drew (.slice a ds.length cap) ds := HP3.dirs.ext ((Below.refl _ _).drew)
      have HM := Lib.hid (H.vals (List.mem_of_find?_eq_some hd))
      have cf := find_some (.slice a ds.length cap) rep ds x d w3.drew D3 hs.len hvl hd
      clear hc3 hf3 cc ce hd
      go_region_held3 (fun w' => w'.cell? ⟨w.heap.size, 0, none⟩ = some (.slice a ds.length cap) ∧ w'.cell? ⟨w.heap.size, 1, none⟩ = some (.bool rep) ∧ w'.cell? ⟨b2, off2 + i, none⟩ = some (.string ⟨⟨x⟩⟩)) (go_keep)
        ((go_at_call 33; refine cf.mono ?_; rintro e w4 ⟨u, rfl, hown4, hx4⟩; obtain ⟨au, cu, rfl⟩ := own_form hown4; have t1 := (hx4.cell (p := ⟨w.heap.size, 0, none⟩) (by simp; omega)).trans s1; have t2 := (hx4.cell (p := ⟨w.heap.size, 1, none⟩) (by simp; omega)).trans s2; have t3 := (hx4.cell (p := ⟨b2, off2 + i, none⟩) (by simp; omega)).trans s3; have t4 := (hx4.cell (p := ⟨w.heap.size + 1, 0, none⟩) (by simp; omega)).trans g1; have t5 := (hx4.cell (p := ⟨w.heap.size + 1, 1, none⟩) (by simp; omega)).trans g2; have t6 := (hx4.frozen (p := ⟨w.heap.size + 1, 0, none⟩) (by simp; omega)).trans g3; have t7 := (hx4.frozen (p := ⟨w.heap.size + 1, 1, none⟩) (by simp; omega)).trans g4))
      go_wp2
      refine bodyPost_ret (v := .tuple #[.agg #[.string ⟨⟨d.name⟩⟩, .slice au d.vals.length cu], .bool true]) (by simp [results, Tryd.results18, go_sem, t4, t5]) rfl ⟨_, rfl, ?_, ?_⟩
      · refine ⟨_, _, rfl, OwnS.strs (B := w3.drew.heap.size) (ownsRow_setCell_below (ownsRow_setCell_below hown4 (by simp; omega) _) (by simp; omega) _) HM.out.1 HM.out.2⟩
      · exact ((hext0.trans (Ext.trans hx2 (Ext.trans hx3 (Below.drew (Below.refl _ _) |>.trans hx4)))).setCell (by simp) _).setCell (by simp) _
end Go.Proofs.YtkofccabfkkgjaaDoor
