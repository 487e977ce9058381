/-
  What is proved: whether a policy asks for trusted scripts: the program's, the reference's: contracts. Condition: lists of at most a million, texts of at most 99999 bytes.
-/
import Derived.Test.YtkofccabfkkgjaaDoorTruA
import Derived.Test.YtkofccabfkkgjaaDoorChnH
namespace Go.Proofs.YtkofccabfkkgjaaDoor
open Go.RowKit

theorem closure_req (s : List UInt8) (w : World) (hs : s.length ≤ maxLen) :
    Calls Tryd.prog 43 #[.string ⟨⟨s⟩⟩] w fun e w' => e = .returned (.bool (lowL s == scL)) ∧ Ext w w' := by
  have c := fun W => same_any s scL W hs (by decide)
  rw [show lowL scL = scL from by decide] at c
  obtain ⟨r, hr⟩ : ∃ r, (lowL s == scL) = r := ⟨_, rfl⟩
  rw [hr] at c
  rw [hr]
  clear hr
  go_enter Tryd.func43, Tryd.ntmps43
  go_wp2_with (go_at_call 36; refine (c _).mono ?_; rintro e w' ⟨rfl, hx⟩)
  go_ret
  exact ⟨rfl, hx⟩
set_option maxHeartbeats 4000000 in
theorem indexFunc_req (v : Value) (l : List (List UInt8)) (w : World) (H : StrsAt w v l) :
    Calls Tryd.prog 31 #[v, .func (.func 43) #[] #[]] w fun e w' => e = .returned (.int .i64 (idxG (fun s => lowL s == scL) l 0)) ∧ Ext w w' := by
  have hm : l.length ≤ 9223372036854775807 := by obtain ⟨_, _, _, h, _⟩ := H; exact h
  have HM : Hid (∀ s ∈ l, s.length ≤ maxLen) := by obtain ⟨_, _, _, _, h, _⟩ := H; exact Lib.hid h
  obtain ⟨a, cap, rfl, hcells⟩ := H.cells
  have HC := Lib.hid hcells
  clear hcells H
  go_enter Tryd.func31, Tryd.ntmps31
  go_wp2_with fail
  go_loopw [5, 8] (fun _ i wr => ∃ k : Nat, i = .int .i64 k ∧ k ≤ l.length ∧ Ext w wr ∧ Hid (∀ j (hj : j < l.length), j < k → (lowL l[j] == scL) = false)) (fun _ i _ => l.length - (intOf i).toNat)
  case atStart => exact ⟨0, rfl, by omega, Ext.refl w, Lib.hid (fun j _ hj => by omega)⟩
  case round =>
    obtain ⟨k, rfl, hk, hx, HN⟩ := hrel
    by_cases hlt : k < l.length
    · obtain ⟨b2, off, rfl, hb2, c1⟩ := HC.out k hlt
      have c1' := (hx.cell (p := ⟨b2, off + k, none⟩) hb2).trans c1
      have hk1 : (k : Int) < (l.length : Int) := by omega
      have hxl := HM.out l[k] (List.getElem_mem hlt)
      obtain ⟨x, hxx⟩ : ∃ x, l[k] = x := ⟨_, rfl⟩
      have HX := Lib.hid hxx
      rw [hxx] at c1' hxl
      have cl := fun W => closure_req x W hxl
      clear hxx c1
      cases hq : (lowL x == scL)
      · have HQ : Hid ((lowL l[k] == scL) = false) := Lib.hid (by rw [HX.out]; exact hq)
        rw [hq] at cl
        clear hq
        go_wp2_with (go_at_call 43; refine (cl _).mono ?_; rintro e w1 ⟨rfl, hx1⟩)
        go_roundw
        case rel =>
          refine ⟨k + 1, by go_num, by omega, hx.trans hx1, Lib.hid (fun j h hj => ?_)⟩
          by_cases e : j = k
          · subst e
            exact HQ.out
          · exact HN.out j h (by omega)
        case measure => simp [intOf]; omega
      · have HQ : Hid ((lowL l[k] == scL) = true) := Lib.hid (by rw [HX.out]; exact hq)
        rw [hq] at cl
        clear hq
        go_wp2_with (go_at_call 43; refine (cl _).mono ?_; rintro e w1 ⟨rfl, hx1⟩)
        go_ret
        refine ⟨ret_inj (int_eq ?_), hx.trans hx1⟩
        rw [idxG_hit (fun s => lowL s == scL) l k hlt 0 (fun j hj => HN.out j (by omega) hj) HQ.out]
        omega
    · have hkl : k = l.length := by omega
      subst hkl
      go_wp2_with fail
      go_ret
      refine ⟨ret_inj (int_eq ?_), hx⟩
      rw [idxG_miss (fun s => lowL s == scL) l 0 (fun j hj => HN.out j hj hj)]
theorem idx_any {α : Type} (p : α → Bool) (l : List α) : decide (0 ≤ idxG p l 0) = l.any p := by
  have e : l.any p = (l.find? p).isSome := by
    rw [Bool.eq_iff_iff]
    simp [List.any_eq_true, List.find?_isSome]
  rw [e]
  rcases idxG_cases p l 0 with ⟨h1, h2⟩ | ⟨k, hk, h1, h2⟩
  · rw [h1, h2]
    rfl
  · rw [h1, h2, decide_eq_true (by omega)]
    rfl
theorem containsFunc_req (v : Value) (l : List (List UInt8)) (w : World) (H : StrsAt w v l) :
    Calls Tryd.prog 42 #[v, .func (.func 43) #[] #[]] w fun e w' => e = .returned (.bool (l.any fun s => lowL s == scL)) ∧ Ext w w' := by
  have ci := indexFunc_req v l w H
  have HI := Lib.hid (idx_any (fun s => lowL s == scL) l)
  obtain ⟨i, hi⟩ : ∃ i, idxG (fun s => lowL s == scL) l 0 = i := ⟨_, rfl⟩
  rw [hi] at ci HI
  obtain ⟨r, hr⟩ : ∃ r, (l.any fun s => lowL s == scL) = r := ⟨_, rfl⟩
  rw [hr] at HI
  rw [hr]
  clear hi hr
  obtain ⟨a, cap, rfl, _⟩ := H
  go_enter Tryd.func42, Tryd.ntmps42
  go_wp2_with (go_at_call 31; refine ci.mono ?_; rintro e w' ⟨rfl, hx⟩)
  go_ret
  exact ⟨ret_inj (bool_eq HI.out), hx⟩
theorem alloc_at (w : World) (t : TypeId) (cs : Array Value) (i : Nat) (v : Value) (h : cs[i]? = some v) : (w.alloc (.cells cs t)).cell? ⟨w.heap.size, i, none⟩ = some v := (cells_of_lit (heap_alloc_new w _) i).trans h
theorem StrsAt.nil (w : World) : StrsAt w (.slice none 0 0) [] := ⟨none, 0, rfl, Nat.zero_le _, by simp, .inl rfl⟩
set_option maxHeartbeats 4000000 in
theorem requires_any (v : Value) (rep : Bool) (ds : List Dir) (w : World) (H : DirsAt w v ds) (hs : SmallD ds) :
    Calls Tryd.prog 27 #[.agg #[v, .bool rep]] w fun e w' => e = .returned (.bool (requiresN ds)) ∧ Ext w w' := by
  obtain ⟨a, cap, rfl, _⟩ := H.cells
  have hext0 : Ext w (w.alloc (.cells #[.slice a ds.length cap, .bool rep] 30)) := (Below.refl _ _).alloc (Nat.le_refl _) _
  have HN : Hid (requiresN ds = (valsOf (findD ds rtL)).any fun s => lowL s == scL) := Lib.hid rfl
  obtain ⟨r, hr⟩ : ∃ r, requiresN ds = r := ⟨_, rfl⟩
  rw [hr] at HN
  rw [hr]
  clear hr
  cases hf : findD ds rtL with
  | none =>
    have cf := fun W H => find_none (.slice a ds.length cap) rep ds rtL W H hs.len hf
    rw [hf] at HN
    clear hf
    have HN2 : Hid (r = false) := Lib.hid HN.out
    go_enter Tryd.func27, Tryd.ntmps27
    go_wp2_with fail
    refine (cf _ (H.ext hext0)).mono ?_
    rintro e w1 ⟨rfl, x1⟩
    have hA : Ext w1 (w1.alloc (.cells #[.string ⟨⟨[]⟩⟩, .slice none 0 0] 33)) := (Below.refl _ _).alloc (Nat.le_refl _) _
    go_wp2_with fail
    refine (containsFunc_req _ [] _ (StrsAt.nil _)).mono ?_
    rintro e w2 ⟨rfl, x2⟩
    go_wp2_with fail
    go_ret
    exact ⟨ret_inj (bool_eq HN2.out.symm), Ext.trans hext0 (Ext.trans x1 (Ext.trans hA x2))⟩
  | some d =>
    have cf := fun W H => find_some (.slice a ds.length cap) rep ds rtL d W H hs.len (hs.found hf) hf
    have HV := Lib.hid (H.vals (List.mem_of_find?_eq_some hf))
    rw [hf] at HN
    clear hf
    have HN2 : Hid ((d.vals.any fun s => lowL s == scL) = r) := Lib.hid HN.out.symm
    go_enter Tryd.func27, Tryd.ntmps27
    go_wp2_with fail
    refine (cf _ (H.ext hext0)).mono ?_
    rintro e w1 ⟨u, rfl, hown, x1⟩
    obtain ⟨au, cu, rfl⟩ := own_form hown
    have hA : Ext w1 (w1.alloc (.cells #[.string ⟨⟨d.name⟩⟩, .slice au d.vals.length cu] 33)) := (Below.refl _ _).alloc (Nat.le_refl _) _
    have cc := containsFunc_req (.slice au d.vals.length cu) d.vals _ ((hown.strs HV.out.1 HV.out.2).ext hA)
    rw [HN2.out] at cc
    go_wp2_with fail
    refine cc.mono ?_
    rintro e w2 ⟨rfl, x2⟩
    go_wp2_with fail
    go_ret
    exact ⟨rfl, Ext.trans hext0 (Ext.trans x1 (Ext.trans hA x2))⟩
end Go.Proofs.YtkofccabfkkgjaaDoor
