/-
  What is proved: the directives of a text: policy.One: a contract. Condition: texts of at most 100000 bytes.
-/
import Derived.Test.YtfaomejdoljfnaaDoorSpl
import Derived.Test.YtfaomejdoljfnaaDoorNam
import Derived.Test.YtfaomejdoljfnaaDoorFldB
namespace Go.Proofs.YtfaomejdoljfnaaDoor
open Go.RowKit

theorem fields_none (l : List UInt8) (w : World) (hl : l.length < 100000) (h : fieldsL l = []) :
    Calls Tryd.prog 15 #[.string ⟨⟨l⟩⟩] w fun e w' => ∃ a cap, e = .returned (.slice a 0 cap) ∧ Ext w w' := by
  refine (fields_any l w hl).mono ?_
  rintro e w' ⟨v, rfl, hown, hx⟩
  rw [h] at hown
  rcases hown.2 with ⟨rfl, _⟩ | ⟨g, cap, cur, rfl, _⟩
  · exact ⟨_, _, rfl, hx⟩
  · exact ⟨_, _, rfl, hx⟩
theorem fields_some (l : List UInt8) (w : World) (hl : l.length < 100000) (x : List UInt8) (xs : List (List UInt8)) (h : fieldsL l = x :: xs) :
    Calls Tryd.prog 15 #[.string ⟨⟨l⟩⟩] w fun e w' => ∃ g cap, e = .returned (.slice (some ⟨g, 0, none⟩) (xs.length + 1) (cap + 1)) ∧ xs.length ≤ cap ∧ cap + 1 ≤ maxLen ∧ w'.cell? ⟨g, 0, none⟩ = some (.string ⟨⟨x⟩⟩) ∧ g < w'.heap.size ∧ StrsB w' (.slice (some ⟨g, 0, none⟩) (xs.length + 1) (cap + 1)) (x :: xs) ∧ Ext w w' := by
  refine (fields_any l w hl).mono ?_
  rintro e w' ⟨v, rfl, hown, hx⟩
  have hc := fields_count l
  have he := fields_each l
  rw [h] at hown hc he
  have hsb := hown.strsB (by unfold maxLen; omega) (fun s hs => by have := he s hs; unfold maxLen; omega)
  rcases hown.2 with ⟨rfl, h0⟩ | ⟨g, cap, cur, rfl, _, hg, hn, hm, _⟩
  · simp at h0
  · obtain ⟨c, rfl⟩ : ∃ c, cap = c + 1 := ⟨cap - 1, by simp at hn; omega⟩
    refine ⟨g, c, rfl, by simpa using hn, hm, ?_, lt_of_block hg, hsb, hx⟩
    obtain ⟨a, cap, e1, _, _, e4⟩ := hsb.strs
    rcases e4 with e4 | ⟨b, off, rfl, _, hcell⟩
    · cases e4
    · simp only [Value.slice.injEq, Option.some.injEq, Addr.mk.injEq, and_true] at e1
      obtain ⟨⟨rfl, rfl⟩, _⟩ := e1
      exact hcell 0 (by simp)
theorem StrsB.cells {w : World} {v : Value} {l : List (List UInt8)} (h : StrsB w v l) : ∃ a cap, v = .slice a l.length cap ∧ ∀ k (hk : k < l.length), ∃ b off, a = some ⟨b, off, none⟩ ∧ b < w.heap.size ∧ w.cell? ⟨b, off + k, none⟩ = some (.string ⟨⟨l[k]⟩⟩) := by
  obtain ⟨a, cap, e1, _, _, e4⟩ := h.strs
  refine ⟨a, cap, e1, fun k hk => ?_⟩
  rcases e4 with rfl | ⟨b, off, e, hb, hc⟩
  · simp at hk
  · exact ⟨b, off, e, hb, hc k hk⟩
theorem OwnD.len {B : Nat} {v : Value} {l : List Dir} {w : World} (h : OwnD B v l w) : ∃ a cap, v = .slice a l.length cap := by
  obtain ⟨ps, rfl, ⟨_, h2⟩, _⟩ := h
  rcases h2 with ⟨rfl, h0⟩ | ⟨g, cap, cur, rfl, _⟩
  · exact ⟨none, 0, by simp [h0]⟩
  · exact ⟨some ⟨g, 0, none⟩, cap, by simp⟩
theorem OwnD.mono {B B' : Nat} {v : Value} {l : List Dir} {w : World} (h : OwnD B' v l w) (hB : B ≤ B') : OwnD B v l w := by
  obtain ⟨ps, h1, ⟨h2, h3⟩, h4⟩ := h
  refine ⟨ps, h1, ⟨h2, ?_⟩, h4⟩
  rcases h3 with h3 | ⟨g, cap, cur, e, hg, r⟩
  · exact .inl h3
  · exact .inr ⟨g, cap, cur, e, by omega, r⟩
theorem addD_none {ds : List Dir} {p : List UInt8} (h : fieldsL p = []) : addD ds p = ds := by unfold addD; rw [h]
theorem addD_had {ds : List Dir} {p x : List UInt8} {xs : List (List UInt8)} (h : fieldsL p = x :: xs) (hh : hasD ds (lowL x) = true) : addD ds p = ds := by unfold addD; rw [h]; simp [hh]
theorem addD_new {ds : List Dir} {p x : List UInt8} {xs : List (List UInt8)} (h : fieldsL p = x :: xs) (hh : hasD ds (lowL x) = false) : addD ds p = ds ++ [⟨lowL x, xs⟩] := by unfold addD; rw [h]; simp [hh]
theorem addD_len (ds : List Dir) (p : List UInt8) : (addD ds p).length ≤ ds.length + 1 := by
  unfold addD
  split
  · omega
  · split
    · omega
    · simp
theorem addD_fold_len (ps : List (List UInt8)) : ∀ ds, (ps.foldl addD ds).length ≤ ds.length + ps.length := by
  induction ps with
  | nil => intro ds; simp
  | cons p ps ih =>
    intro ds
    have := ih (addD ds p)
    have h2 := addD_len ds p
    simp only [List.foldl_cons, List.length_cons]
    omega
theorem one_len (l : List UInt8) : (oneL l).length ≤ l.length + 1 := by
  have h1 := addD_fold_len (splitL 59 l) []
  have h2 := split_count 59 l
  unfold oneL
  simp at h1
  omega
theorem tail_at {xs : List (List UInt8)} {cp g : Nat} (h : xs.length ≤ cp) : xs ≠ [] → (if cp = 0 then some (⟨g, 0, none⟩ : Addr) else some ⟨g, 1, none⟩) = some ⟨g, 0 + 1, none⟩ := by
  intro hx
  have : 0 < xs.length := List.length_pos_iff.2 hx
  rw [if_neg (by omega)]
theorem low_len {x : List UInt8} (h : x.length < 100000) : (lowL x).length ≤ maxLen := by
  unfold lowL maxLen
  rw [List.length_map]
  omega
set_option maxHeartbeats 4000000 in
theorem one_any (l : List UInt8) (w : World) (hm : MaxIs w) (hl : l.length < 100000) :
    Calls Tryd.prog 7 #[.string ⟨⟨l⟩⟩] w fun e w' => ∃ v, e = .returned v ∧ OwnD w.heap.size v (oneL l) w' ∧ Ext w w' := by
  have hcount := split_count 59 l
  have heach := split_each 59 l
  obtain ⟨P, hP⟩ : ∃ P, splitL 59 l = P := ⟨_, rfl⟩
  have HP := Lib.hid hP
  have csplit := split_any l 59 w hm hl
  rw [hP] at hcount heach csplit
  clear hP
  go_enter Tryd.func7, Tryd.ntmps7
  go_wp2_with (go_at_call 14; refine csplit.mono ?_; rintro e w1 ⟨v, rfl, hsb, hx1⟩; obtain ⟨a, cap, rfl, hcells⟩ := hsb.cells; have HC := Lib.hid hcells; clear hcells)
  clear hm csplit
  go_loopw [3, 11] (fun vs i wr => ∃ (k : Nat) (ds : List Dir), i = .int .i64 k ∧ k ≤ P.length ∧ OwnD w1.heap.size vs ds wr ∧ Hid (ds = (P.take k).foldl addD []) ∧ Ext w1 wr) (fun _ i _ => P.length - (intOf i).toNat)
  case atStart => exact ⟨0, [], rfl, by omega, OwnD.nil _ _, Lib.hid rfl, Ext.refl _⟩
  case round =>
    obtain ⟨k, ds, rfl, hk, hown, HD, hx⟩ := hrel
    by_cases hlt : k < P.length
    · obtain ⟨b, off, rfl, hb, hcell⟩ := HC.out k hlt
      have hcell := (hx.cell (p := ⟨b, off + k, none⟩) hb).trans hcell
      have hpl : P[k].length < 100000 := by have := heach _ (List.getElem_mem hlt); omega
      have HS : Hid ((P.take (k + 1)).foldl addD [] = addD ds P[k]) := Lib.hid (by rw [List.take_succ_eq_append_getElem hlt, List.foldl_append, HD.out]; rfl)
      have hdl : ds.length ≤ 100001 := by
        have := addD_fold_len (P.take k) []
        rw [← HD.out] at this
        simp at this
        omega
      have hwr : w.heap.size ≤ wr.heap.size := Nat.le_trans hx1.size hx.size
      obtain ⟨p, hp⟩ : ∃ p, P[k] = p := ⟨_, rfl⟩
      rw [hp] at hcell hpl HS
      clear hp HC
      cases hf : fieldsL p with
      | nil =>
        have HA := Lib.hid (addD_none (ds := ds) hf)
        have cf := fun W => fields_none p W hpl hf
        clear hf
        go_wp2_with (go_at_call 15; refine (cf _).mono ?_; rintro e w2 ⟨a2, cap2, rfl, hx2⟩)
        go_roundw
        case rel => exact ⟨k + 1, ds, by go_num, by omega, hown.ext hx2, Lib.hid (by rw [HS.out, HA.out]), hx.trans hx2⟩
        case measure => simp [intOf]; omega
      | cons x xs =>
        have cf := fun W => fields_some p W hpl x xs hf
        have hxl : x.length < 100000 := by
          have := fields_each p x (by rw [hf]; simp)
          omega
        have hxsl : xs.length ≤ 100001 := by
          have := fields_count p
          rw [hf] at this
          simp at this
          omega
        have hI := named_has ds (lowL x)
        cases hh : hasD ds (lowL x)
        · have HA := Lib.hid (addD_new hf hh)
          rw [hh] at hI
          simp only [Bool.not_false] at hI
          clear hf hh
          go_wp2_with (go_at_call 15; refine (cf _).mono ?_; rintro e w2 ⟨g, cp, rfl, hcp, hcpm, hg0, hg, hsb2, hx2⟩)
          have hown2 := hown.ext hx2
          go_wp2_with (first
            | (go_at_call 12; refine (Lower_any x _ hxl).mono ?_; rintro e w3 ⟨rfl, hx3⟩; have hown3 := hown2.ext hx3; have hsb3 := hsb2.ext hx3)
            | (go_at_call 16; refine (named_any _ ds (lowL x) _ (hown3.dirs (by unfold maxLen; omega)) (by omega)).mono ?_; rintro e w4 ⟨rfl, hx4⟩; have hown4 := hown3.ext hx4; have hsb4 := hsb3.ext hx4)
            | (at_builtin; refine app_dir rfl _ _ rfl ⟨lowL x, xs⟩ _ _ w4 rfl rfl rfl hown4 (hsb4.tail cp _ (tail_at hcp)) (low_len hxl) rfl (by omega) (Nat.le_trans hx.size (Nat.le_trans hx2.size (Nat.le_trans hx3.size hx4.size))) ?_; intro v5 w5 hown5 hx5))
          go_roundw
          case rel => exact ⟨k + 1, _, by go_num, by omega, hown5, Lib.hid (by rw [HS.out, HA.out]), Below.trans (((hx.trans hx2).trans hx3).trans hx4) hx5⟩
          case measure => simp [intOf]; omega
        · have HA := Lib.hid (addD_had hf hh)
          rw [hh] at hI
          simp only [Bool.not_true] at hI
          clear hf hh
          go_wp2_with (go_at_call 15; refine (cf _).mono ?_; rintro e w2 ⟨g, cp, rfl, hcp, hcpm, hg0, hg, hsb2, hx2⟩)
          have hown2 := hown.ext hx2
          go_wp2_with (first
            | (go_at_call 12; refine (Lower_any x _ hxl).mono ?_; rintro e w3 ⟨rfl, hx3⟩; have hown3 := hown2.ext hx3)
            | (go_at_call 16; refine (named_any _ ds (lowL x) _ (hown3.dirs (by unfold maxLen; omega)) (by omega)).mono ?_; rintro e w4 ⟨rfl, hx4⟩; have hown4 := hown3.ext hx4))
          go_roundw
          case rel => exact ⟨k + 1, ds, by go_num, by omega, hown4, Lib.hid (by rw [HS.out, HA.out]), ((hx.trans hx2).trans hx3).trans hx4⟩
          case measure => simp [intOf]; omega
    · obtain rfl : k = P.length := by omega
      go_wp2_with fail
      go_ret
      refine ⟨_, rfl, ?_, hx1.trans hx⟩
      have : ds = oneL l := by
        rw [HD.out, List.take_length]
        unfold oneL
        rw [HP.out]
      rw [← this]
      exact hown.mono hx1.size
end Go.Proofs.YtfaomejdoljfnaaDoor
