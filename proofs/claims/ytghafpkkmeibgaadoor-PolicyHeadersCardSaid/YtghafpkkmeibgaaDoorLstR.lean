/-
  What is proved: the reference's policies of a header's value: a contract. Condition: texts of at most 100000 bytes.
-/
import Derived.Test.YtghafpkkmeibgaaDoorOneR
namespace Go.Proofs.YtghafpkkmeibgaaDoor
open Go.RowKit

set_option maxHeartbeats 4000000 in
theorem listR_any (l : List UInt8) (rep : Bool) (w : World) (hl : l.length < 100000) :
    Calls Tryd.prog 23 #[.string ⟨⟨l⟩⟩, .bool rep] w fun e w' => ∃ v, e = .returned v ∧ OwnP w.heap.size v (polsL l rep) w' ∧ Ext w w' := by
  have hcount := split_count 44 l
  have heach := split_each 44 l
  obtain ⟨P, hP⟩ : ∃ P, splitL 44 l = P := ⟨_, rfl⟩
  have HP := Lib.hid hP
  have csplit := part_any l 44 w hl
  rw [hP] at hcount heach csplit
  have HE := Lib.hid heach
  clear hP heach
  go_enter Tryd.func23, Tryd.ntmps23
  go_wp2_with fail
  refine csplit.mono ?_
  rintro e w1 ⟨v, rfl, hsb, hx1⟩
  obtain ⟨a, cap, rfl, hcells⟩ := (hsb.strs (by unfold maxLen; omega) (fun s hs => by have := HE.out s hs; unfold maxLen; omega)).cells
  have HC := Lib.hid hcells
  clear hcells csplit hsb
  go_wp2_with fail
  go_loopw [5, 7] (fun vs i wr => ∃ (k : Nat) (ls : List (List Dir)), i = .int .i64 k ∧ k ≤ P.length ∧ ls.length ≤ k ∧ OwnP w1.heap.size vs (ls.map fun ds => ⟨ds, rep⟩) wr ∧ Hid (ls = (P.take k).foldl listStep []) ∧ Ext w1 wr) (fun _ i _ => P.length - (intOf i).toNat)
  case atStart => exact ⟨0, [], rfl, by omega, by simp, OwnP.nil _ _, Lib.hid rfl, Ext.refl _⟩
  case round =>
    obtain ⟨k, ls, rfl, hk, hls, hown, HD, hx⟩ := hrel
    by_cases hlt : k < P.length
    · obtain ⟨b, off, rfl, hb, hcell⟩ := HC.out k hlt
      have hcell := (hx.cell (p := ⟨b, off + k, none⟩) hb).trans hcell
      have hpl : P[k].length < 100000 := by have := HE.out _ (List.getElem_mem hlt); omega
      have HS : Hid ((P.take (k + 1)).foldl listStep [] = listStep ls P[k]) := Lib.hid (by rw [list_fold_snoc P hlt, HD.out])
      obtain ⟨p, hp⟩ : ∃ p, P[k] = p := ⟨_, rfl⟩
      rw [hp] at hcell hpl HS
      have c1 := fun W => oneR_any p W hpl
      have hol := one_len p
      obtain ⟨ds, hd⟩ : ∃ ds, oneL p = ds := ⟨_, rfl⟩
      rw [hd] at c1 hol
      have k0 : (0 : Int) ≤ (k : Int) := by omega
      have k1 : (k : Int) < (P.length : Int) := by omega
      have hml : (ls.map fun ds => (⟨ds, rep⟩ : Pol)).length + 1 ≤ 1000000000 := by rw [List.length_map]; omega
      by_cases hn : ds = []
      · have HA : Hid (listStep ls p = ls) := Lib.hid (by unfold listStep; rw [hd, if_pos hn])
        subst hn
        clear hp hd
        go_wp2_with (go_at_call 20; refine (c1 _).mono ?_; rintro e w2 ⟨v2, rfl, hown2, hx2⟩; obtain ⟨a2, cp2, rfl⟩ := hown2.len)
        go_roundw
        case rel => exact ⟨k + 1, ls, by go_num, by omega, by omega, hown.ext hx2, Lib.hid (by rw [HS.out, HA.out]), Ext.trans hx hx2⟩
        case measure => simp [intOf]; omega
      · have HA : Hid (listStep ls p = ls ++ [ds]) := Lib.hid (by unfold listStep; rw [hd, if_neg hn])
        have hdl : 0 < ds.length := List.length_pos_iff.2 hn
        clear hp hd hn
        go_wp2_with (first
          | (go_at_call 20; refine (c1 _).mono ?_; rintro e w2 ⟨v2, rfl, hown2, hx2⟩; have hdb := hown2.dirsB (by unfold maxLen; omega); have hownx := hown.ext hx2; obtain ⟨a2, cp2, rfl⟩ := hown2.len)
          | (at_builtin; refine app_pol rfl _ _ rfl ⟨ds, rep⟩ _ w2 rfl rfl hownx hdb rfl hml (Nat.le_trans hx.size hx2.size) ?_; intro v5 w5 hown5 hx5))
        go_roundw
        case rel => exact ⟨k + 1, ls ++ [ds], by go_num, by omega, by simp; omega, by rw [List.map_append]; exact hown5, Lib.hid (by rw [HS.out, HA.out]), Below.trans (Ext.trans hx hx2) hx5⟩
        case measure => simp [intOf]; omega
    · obtain rfl : k = P.length := by omega
      go_wp2_with fail
      go_ret
      refine ⟨_, rfl, ?_, Ext.trans hx1 hx⟩
      have : ls = listL l := by
        rw [HD.out, List.take_length]
        unfold listL
        rw [HP.out]
      unfold polsL
      rw [← this]
      exact hown.mono hx1.size
end Go.Proofs.YtghafpkkmeibgaaDoor
