/-
  What is proved: the policies of headers, the program's: a contract. Condition: at most 1000 headers, of names of at most 99999 bytes and values of at most 9999.
-/
import Derived.Test.YtfaomejdoljfnaaDoorHdr
namespace Go.Proofs.YtfaomejdoljfnaaDoor
open Go.RowKit

/-- The slice has the room that its length says. -/
def CapLe : Value → Prop
  | .slice _ n c => n ≤ c
  | _ => False
def HdrResC (o : Option (List Pol)) (w : World) (e : Ending) (w' : World) : Prop := match o with
  | none => e = .returned (.tuple #[.slice none 0 0, .int .i64 3]) ∧ Ext w w'
  | some L => ∃ x, e = .returned (.tuple #[x, .int .i64 0]) ∧ PolsAt w' x L ∧ CapLe x ∧ Ext w w'
theorem OwnP.cap {B : Nat} {v : Value} {l : List Pol} {w : World} (h : OwnP B v l w) : CapLe v := by
  obtain ⟨ps, rfl, ⟨_, h2⟩, _⟩ := h
  rcases h2 with ⟨rfl, h0⟩ | ⟨g, cap, cur, rfl, _, _, hn, _⟩
  · exact Nat.le_refl 0
  · exact hn
set_option maxHeartbeats 8000000 in
set_option maxRecDepth 100000 in
theorem headers_own (v : Value) (l : List Hdr) (w : World) (hm : MaxIs w) (H : HdrsAt w v l) (hok : HdrOk l) :
    Calls Tryd.prog 5 #[v] w (HdrResC (hdrsL l) w) := by
  have hlen := hok.len
  have HE := Lib.hid hok.each
  obtain ⟨a, cap, rfl, hcl⟩ := H.cells
  have HC := Lib.hid hcl
  clear hcl hok H
  by_cases g1 : 16 < l.length
  · have HR : Hid (hdrsL l = none) := Lib.hid (by unfold hdrsL; rw [if_pos g1])
    go_enter Tryd.func5, Tryd.ntmps5
    go_wp2_with fail
    rw [HR.out]
    go_ret2
    exact ⟨rfl, Ext.refl _⟩
  have HM := Lib.hid hm
  clear hm
  go_enter Tryd.func5, Tryd.ntmps5
  go_wp2_with fail
  go_loopw [4, 13] (fun vs i wr => ∃ (k : Nat) (out : List Pol), i = .int .i64 k ∧ k ≤ l.length ∧ out.length ≤ k * 10000 ∧ OwnP w.heap.size vs out wr ∧ Hid (out = hdrsAll (l.take k)) ∧ Ext w wr ∧ Hid (∀ j (hj : j < l.length), j < k → l[j].val.length ≤ 4000)) (fun _ i _ => l.length - (intOf i).toNat)
  case atStart => exact ⟨0, [], rfl, by omega, by simp, OwnP.nil _ _, Lib.hid rfl, Ext.refl _, Lib.hid (fun j _ hj => by omega)⟩
  case round =>
    obtain ⟨k, out, rfl, hk, ho, hown, HO, hx, HN⟩ := hrel
    have k0 : (0 : Int) ≤ (k : Int) := by omega
    by_cases hlt : k < l.length
    · obtain ⟨b, off, rfl, hb, c1, c2⟩ := HC.out k hlt
      have c1 := old_cell2 hx c1
      have c2 := old_cell2 hx c2
      obtain ⟨hn1, hv1⟩ := HE.out l[k] (List.getElem_mem hlt)
      have HT := Lib.hid (hdrsAll_take hlt)
      have hpl := hdrPols_len l[k]
      have HLong : Hid (4000 < l[k].val.length → hdrsL l = none) := Lib.hid (fun h => by
        unfold hdrsL
        split
        · rfl
        · rw [if_pos]
          exact List.any_eq_true.2 ⟨l[k], List.getElem_mem hlt, by simpa using h⟩)
      obtain ⟨h, hh⟩ : ∃ h, l[k] = h := ⟨_, rfl⟩
      rw [hh] at c1 c2 hn1 hv1 HT hpl HLong
      have HNk : Hid (h.val.length ≤ 4000 → ∀ j (hj : j < l.length), j < k + 1 → l[j].val.length ≤ 4000) := Lib.hid (fun hle j hj hjk => by
        by_cases e : j = k
        · subst e; rw [hh]; exact hle
        · exact HN.out j hj (by omega))
      have k1 : (k : Int) < (l.length : Int) := by omega
      have cl := fun W => Lower_any h.name W hn1
      obtain ⟨N, hN⟩ : ∃ N, lowL h.name = N := ⟨_, rfl⟩
      rw [hN] at cl
      by_cases hlong : 4000 < h.val.length
      · have HR := Lib.hid (HLong.out hlong)
        clear hh hN hpl
        go_wp2_with fail
        rw [HR.out]
        go_ret2
        exact ⟨rfl, hx.alloc hx.size _⟩
      · have hpl' : (hdrPols h).length ≤ 4001 := by omega
        have HNN := Lib.hid (HNk.out (by omega))
        clear hh hpl
        go_wp2_with fail
        refine (cl _).mono ?_
        rintro e w2 ⟨rfl, x2b⟩
        have x2a : Ext wr (wr.alloc (.cells #[.string ⟨⟨h.name⟩⟩, .string ⟨⟨h.val⟩⟩] 24)) := (Below.refl _ _).alloc (Nat.le_refl _) _
        have x2 := Ext.trans x2a x2b
        have hm2 := HM.out.ext (Ext.trans hx x2)
        have n0 := old_cell2 x2b (cells_of_lit (heap_alloc_new wr (.cells #[.string ⟨⟨h.name⟩⟩, .string ⟨⟨h.val⟩⟩] 24)) 0)
        have n1 := old_cell2 x2b (cells_of_lit (heap_alloc_new wr (.cells #[.string ⟨⟨h.name⟩⟩, .string ⟨⟨h.val⟩⟩] 24)) 1)
        have hown2 := hown.ext x2
        have hb2 : w.heap.size ≤ w2.heap.size := Nat.le_trans hx.size x2.size
        clear c1 c2 cl x2a
        by_cases hE : N = [99, 111, 110, 116, 101, 110, 116, 45, 115, 101, 99, 117, 114, 105, 116, 121, 45, 112, 111, 108, 105, 99, 121]
        · have e1 : (N == [99, 111, 110, 116, 101, 110, 116, 45, 115, 101, 99, 117, 114, 105, 116, 121, 45, 112, 111, 108, 105, 99, 121]) = true := by simpa using hE
          have e2 : (N == [99, 111, 110, 116, 101, 110, 116, 45, 115, 101, 99, 117, 114, 105, 116, 121, 45, 112, 111, 108, 105, 99, 121, 45, 114, 101, 112, 111, 114, 116, 45, 111, 110, 108, 121]) = false := by rw [hE]; decide
          have HP : Hid (hdrPols h = polsL h.val false) := Lib.hid (by unfold hdrPols enfL; rw [if_pos (hN.trans hE)])
          have c3 := fun W hM => list_any h.val false W hM (by omega)
          rw [← HP.out] at c3
          clear hE hN
          go_wp2_with (first
            | (go_at_call 8; refine (c3 _ hm2).mono ?_; rintro e w3 ⟨v3, rfl, o3, x3⟩; have hownx := hown2.ext x3; have hbx := Nat.le_trans hb2 x3.size)
            | (at_builtin; refine app_pols rfl (.tmp 28) (.tmp 33) rfl rfl rfl hownx o3 (by omega) hbx ?_; intro v4 w4 hown4 y4))
          go_roundw
          case rel => exact ⟨k + 1, out ++ hdrPols h, by go_num, by omega, by rw [List.length_append]; omega, hown4, Lib.hid (by rw [HT.out, ← HO.out]), Below.trans (Ext.trans (Ext.trans hx x2) x3) y4, HNN⟩
          case measure => simp [intOf]; omega
        · have e1 : (N == [99, 111, 110, 116, 101, 110, 116, 45, 115, 101, 99, 117, 114, 105, 116, 121, 45, 112, 111, 108, 105, 99, 121]) = false := beq_eq_false_iff_ne.2 hE
          by_cases hR : N = [99, 111, 110, 116, 101, 110, 116, 45, 115, 101, 99, 117, 114, 105, 116, 121, 45, 112, 111, 108, 105, 99, 121, 45, 114, 101, 112, 111, 114, 116, 45, 111, 110, 108, 121]
          · have e3 : (N == [99, 111, 110, 116, 101, 110, 116, 45, 115, 101, 99, 117, 114, 105, 116, 121, 45, 112, 111, 108, 105, 99, 121, 45, 114, 101, 112, 111, 114, 116, 45, 111, 110, 108, 121]) = true := by simpa using hR
            have HP : Hid (hdrPols h = polsL h.val true) := Lib.hid (by unfold hdrPols enfL repL; rw [if_neg (fun e => hE (hN.symm.trans e)), if_pos (hN.trans hR)])
            have c3 := fun W hM => list_any h.val true W hM (by omega)
            rw [← HP.out] at c3
            clear hE hR hN
            go_wp2_with (first
              | (go_at_call 8; refine (c3 _ hm2).mono ?_; rintro e w3 ⟨v3, rfl, o3, x3⟩; have hownx := hown2.ext x3; have hbx := Nat.le_trans hb2 x3.size)
              | (at_builtin; refine app_pols rfl (.tmp 28) (.tmp 33) rfl rfl rfl hownx o3 (by omega) hbx ?_; intro v4 w4 hown4 y4))
            go_roundw
            case rel => exact ⟨k + 1, out ++ hdrPols h, by go_num, by omega, by rw [List.length_append]; omega, hown4, Lib.hid (by rw [HT.out, ← HO.out]), Below.trans (Ext.trans (Ext.trans hx x2) x3) y4, HNN⟩
            case measure => simp [intOf]; omega
          · have e3 : (N == [99, 111, 110, 116, 101, 110, 116, 45, 115, 101, 99, 117, 114, 105, 116, 121, 45, 112, 111, 108, 105, 99, 121, 45, 114, 101, 112, 111, 114, 116, 45, 111, 110, 108, 121]) = false := beq_eq_false_iff_ne.2 hR
            have HP : Hid (hdrPols h = []) := Lib.hid (by unfold hdrPols enfL repL; rw [if_neg (fun e => hE (hN.symm.trans e)), if_neg (fun e => hR (hN.symm.trans e))])
            clear hE hR hN
            go_wp2_with fail
            go_roundw
            case rel => exact ⟨k + 1, out, by go_num, by omega, by omega, hown2, Lib.hid (by rw [HT.out, ← HO.out, HP.out, List.append_nil]), Ext.trans hx x2, HNN⟩
            case measure => simp [intOf]; omega
    · obtain rfl : k = l.length := by omega
      have hpols := hown.pols (by unfold maxLen; omega)
      have HCAP := Lib.hid hown.cap
      obtain ⟨oa, oc, rfl⟩ := hown.len
      have HPS := Lib.hid hpols
      have HNo : Hid (l.any (fun h => decide (4000 < h.val.length)) = false) := Lib.hid (by
        cases hq : l.any (fun h => decide (4000 < h.val.length))
        · rfl
        · obtain ⟨h, hm, hd⟩ := List.any_eq_true.1 hq
          obtain ⟨j, hj, rfl⟩ := List.getElem_of_mem hm
          have := HN.out j hj hj
          simp at hd
          omega)
      have HA : Hid (out = hdrsAll l) := Lib.hid (by rw [HO.out, List.take_length])
      by_cases g2 : 16 < out.length
      · have HR : Hid (hdrsL l = none) := Lib.hid (by unfold hdrsL; rw [if_neg g1, HNo.out, ← HA.out, if_pos g2]; rfl)
        go_wp2_with fail
        rw [HR.out]
        go_ret2
        exact ⟨rfl, hx⟩
      · have HR : Hid (hdrsL l = some out) := Lib.hid (by unfold hdrsL; rw [if_neg g1, HNo.out, ← HA.out, if_neg g2]; rfl)
        go_wp2_with fail
        rw [HR.out]
        go_ret2
        exact ⟨_, rfl, HPS.out, HCAP.out, hx⟩
theorem HdrResC.res {o : Option (List Pol)} {w w' : World} {e : Ending} (h : HdrResC o w e w') : HdrRes o w e w' := by
  cases o with
  | none => exact h
  | some L =>
    obtain ⟨x, h1, h2, _, h4⟩ := h
    exact ⟨x, h1, h2, h4⟩
theorem headers_any (v : Value) (l : List Hdr) (w : World) (hm : MaxIs w) (H : HdrsAt w v l) (hok : HdrOk l) :
    Calls Tryd.prog 5 #[v] w (HdrRes (hdrsL l) w) :=
  (headers_own v l w hm H hok).mono fun _ _ h => h.res
end Go.Proofs.YtfaomejdoljfnaaDoor
