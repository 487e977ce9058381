/-
  What is proved: the program's test of a name that only headers may have; where the first one is: contracts. Condition: lists of at most a million.
-/
import Derived.Test.YtfaomejdoljfnaaDoorPls
namespace Go.Proofs.YtfaomejdoljfnaaDoor
open Go.RowKit

def isH (d : Dir) : Bool := hdrB d.name
set_option maxHeartbeats 1000000 in
theorem closure_meta (x : List UInt8) (u : Value) (w : World) :
    Calls Tryd.prog 18 #[.agg #[.string ⟨⟨x⟩⟩, u]] w fun e w' => e = .returned (.bool (hdrB x)) ∧ Ext w w' := by
  have HD : Hid (hdrB x = (x == [114, 101, 112, 111, 114, 116, 45, 117, 114, 105] || x == [102, 114, 97, 109, 101, 45, 97, 110, 99, 101, 115, 116, 111, 114, 115] || x == [115, 97, 110, 100, 98, 111, 120])) := Lib.hid rfl
  obtain ⟨r, hr⟩ : ∃ r, hdrB x = r := ⟨_, rfl⟩
  rw [hr] at HD ⊢
  clear hr
  by_cases h1 : x = [114, 101, 112, 111, 114, 116, 45, 117, 114, 105]
  · have e1 : (x == [114, 101, 112, 111, 114, 116, 45, 117, 114, 105]) = true := by simpa using h1
    have HF : Hid (r = true) := Lib.hid (by rw [HD.out, e1]; rfl)
    clear h1
    go_enter Tryd.func18, Tryd.ntmps18
    go_wp2
    go_ret
    exact ⟨ret_inj (bool_eq HF.out.symm), (Below.refl _ _).alloc (Nat.le_refl _) _⟩
  · have e1 : (x == [114, 101, 112, 111, 114, 116, 45, 117, 114, 105]) = false := beq_eq_false_iff_ne.2 h1
    by_cases h2 : x = [102, 114, 97, 109, 101, 45, 97, 110, 99, 101, 115, 116, 111, 114, 115]
    · have e2 : (x == [102, 114, 97, 109, 101, 45, 97, 110, 99, 101, 115, 116, 111, 114, 115]) = true := by simpa using h2
      have HF : Hid (r = true) := Lib.hid (by rw [HD.out, e1, e2]; rfl)
      clear h1 h2
      go_enter Tryd.func18, Tryd.ntmps18
      go_wp2
      go_ret
      exact ⟨ret_inj (bool_eq HF.out.symm), (Below.refl _ _).alloc (Nat.le_refl _) _⟩
    · have e2 : (x == [102, 114, 97, 109, 101, 45, 97, 110, 99, 101, 115, 116, 111, 114, 115]) = false := beq_eq_false_iff_ne.2 h2
      obtain ⟨q, e3⟩ : ∃ q, (x == [115, 97, 110, 100, 98, 111, 120]) = q := ⟨_, rfl⟩
      have HF : Hid (r = q) := Lib.hid (by rw [HD.out, e1, e2, e3]; cases q <;> rfl)
      clear h1 h2
      go_enter Tryd.func18, Tryd.ntmps18
      go_wp2
      go_ret
      exact ⟨ret_inj (bool_eq HF.out.symm), (Below.refl _ _).alloc (Nat.le_refl _) _⟩
set_option maxHeartbeats 2000000 in
theorem indexFunc_meta (v : Value) (ds : List Dir) (w : World) (H : DirsAt w v ds) (hl : ds.length ≤ 1000000) :
    Calls Tryd.prog 25 #[v, .func (.func 18) #[] #[]] w fun e w' => e = .returned (.int .i64 (idxG isH ds 0)) ∧ Ext w w' := by
  obtain ⟨a, cap, us, rfl, hml, hsub, hnm, hcells⟩ := H
  have hcells : ∀ k (hk : k < ds.length), ∃ b off, a = some ⟨b, off, none⟩ ∧ b < w.heap.size ∧ w.cell? ⟨b, off + k * 2, none⟩ = some (.string ⟨⟨ds[k].name⟩⟩) ∧ w.cell? ⟨b, off + k * 2 + 1, none⟩ = some (us k) := by
    intro k hk
    rcases hcells with h | ⟨b, off, e, h1, h2⟩
    · subst h; simp at hk
    · exact ⟨b, off, e, h1, h2 k hk⟩
  have HC := Lib.hid hcells
  clear hcells hml hsub hnm
  go_enter Tryd.func25, Tryd.ntmps25
  go_wp2_with fail
  go_loopw [5, 8] (fun _ i wr => ∃ k : Nat, i = .int .i64 k ∧ k ≤ ds.length ∧ Ext w wr ∧ Hid (∀ j (hj : j < ds.length), j < k → isH ds[j] = false)) (fun _ i _ => ds.length - (intOf i).toNat)
  case atStart => exact ⟨0, rfl, by omega, Ext.refl w, Lib.hid (fun j _ hj => by omega)⟩
  case round =>
    obtain ⟨k, rfl, hk, hx, HN⟩ := hrel
    by_cases hlt : k < ds.length
    · obtain ⟨b2, off, rfl, hb2, c1, c2⟩ := HC.out k hlt
      have c1' := (hx.cell (p := ⟨b2, off + k * 2, none⟩) hb2).trans c1
      have c2' := (hx.cell (p := ⟨b2, off + k * 2 + 1, none⟩) hb2).trans c2
      clear c1 c2 HC
      obtain ⟨x, hxx⟩ : ∃ x, ds[k].name = x := ⟨_, rfl⟩
      have HX := Lib.hid hxx
      rw [hxx] at c1'
      clear hxx
      have cc := fun W => closure_meta x (us k) W
      cases hq : hdrB x
      · have HQ := Lib.hid hq
        rw [hq] at cc
        clear hq
        go_wp2_with (go_at_call 18; refine (cc _).mono ?_; rintro e w1 ⟨rfl, hx1⟩)
        go_roundw
        case rel =>
          refine ⟨k + 1, by go_num, by omega, Ext.trans hx hx1, Lib.hid (fun j h hj => ?_)⟩
          by_cases e : j = k
          · subst e
            show hdrB ds[j].name = false
            rw [HX.out, HQ.out]
          · exact HN.out j h (by omega)
        case measure => simp [intOf]; omega
      · have HQ := Lib.hid hq
        rw [hq] at cc
        clear hq
        go_wp2_with (go_at_call 18; refine (cc _).mono ?_; rintro e w1 ⟨rfl, hx1⟩)
        go_ret
        refine ⟨ret_inj (int_eq ?_), Ext.trans hx hx1⟩
        rw [idxG_hit isH ds k hlt 0 (fun j hj => HN.out j (by omega) hj) (by show hdrB ds[k].name = true; rw [HX.out, HQ.out])]
        omega
    · have hkl : k = ds.length := by omega
      subst hkl
      go_wp2_with fail
      go_ret
      refine ⟨ret_inj (int_eq ?_), hx⟩
      rw [idxG_miss isH ds 0 (fun j hj => HN.out j hj hj)]
end Go.Proofs.YtfaomejdoljfnaaDoor
