/-
  What is proved: where a directive of a name stands: policy.named, by slices.IndexFunc and its closure: contracts. Condition: lists of at most a million.
-/
import Derived.Test.YtfaomejdoljfnaaDoorDir
import Derived.Test.YtfaomejdoljfnaaDoorRows
namespace Go.Proofs.YtfaomejdoljfnaaDoor
open Go.RowKit

/-! ### plain -/
/-- Where the first one is, from n on. -/
def idxG {α : Type} (p : α → Bool) : List α → Int → Int
  | [], _ => -1
  | x :: l, k => if p x then k else idxG p l (k + 1)
theorem idxG_hit {α : Type} (p : α → Bool) : ∀ (l : List α) (k : Nat) (h : k < l.length) (z : Int), (∀ j (hj : j < k), p (l[j]'(by omega)) = false) → p l[k] = true → idxG p l z = z + (k : Int)
  | x :: l, 0, _, z, _, h => by
    have h : p x = true := h
    show (if p x = true then z else _) = _
    rw [if_pos h]
    simp
  | x :: l, k + 1, hk, z, hn, h => by
    have h0 : p x = false := hn 0 (by omega)
    show (if p x = true then z else _) = _
    rw [if_neg (by rw [h0]; decide), idxG_hit p l k (by simpa using hk) (z + 1) (fun j hj => hn (j + 1) (by omega)) h]
    omega
theorem idxG_miss {α : Type} (p : α → Bool) : ∀ (l : List α) (z : Int), (∀ j (hj : j < l.length), p l[j] = false) → idxG p l z = -1
  | [], _, _ => rfl
  | x :: l, z, hn => by
    have h0 : p x = false := hn 0 (by simp)
    show (if p x = true then z else _) = _
    rw [if_neg (by rw [h0]; decide), idxG_miss p l (z + 1) (fun j hj => hn (j + 1) (by simpa using hj))]
theorem idxG_cases {α : Type} (p : α → Bool) : ∀ (l : List α) (z : Int), (idxG p l z = -1 ∧ l.find? p = none) ∨ ∃ (k : Nat) (h : k < l.length), idxG p l z = z + (k : Int) ∧ l.find? p = some l[k]
  | [], _ => .inl ⟨rfl, rfl⟩
  | x :: l, z => by
    by_cases h : p x = true
    · refine .inr ⟨0, by simp, ?_, ?_⟩
      · show (if p x = true then z else _) = _
        rw [if_pos h]; simp
      · simp [List.find?, h]
    · have e : idxG p (x :: l) z = idxG p l (z + 1) := by
        show (if p x = true then z else _) = _
        rw [if_neg h]
      have f : (x :: l).find? p = l.find? p := by simp [List.find?, h]
      rw [e, f]
      rcases idxG_cases p l (z + 1) with ⟨h1, h2⟩ | ⟨k, hk, h1, h2⟩
      · exact .inl ⟨h1, h2⟩
      · exact .inr ⟨k + 1, by simpa using hk, by rw [h1]; omega, by rw [h2]; rfl⟩
def isD (n : List UInt8) (d : Dir) : Bool := d.name == n
def namedI (l : List Dir) (n : List UInt8) : Int := idxG (isD n) l 0
theorem named_cases (l : List Dir) (n : List UInt8) : (namedI l n = -1 ∧ findD l n = none) ∨ ∃ (k : Nat) (h : k < l.length), namedI l n = (k : Int) ∧ findD l n = some l[k] := by
  rcases idxG_cases (isD n) l 0 with h | ⟨k, hk, h1, h2⟩
  · exact .inl h
  · exact .inr ⟨k, hk, by unfold namedI; rw [h1]; omega, h2⟩
theorem named_has (l : List Dir) (n : List UInt8) : decide (namedI l n < 0) = !hasD l n := by
  have e : hasD l n = (findD l n).isSome := by
    unfold hasD findD
    rw [Bool.eq_iff_iff]
    simp [List.any_eq_true, List.find?_isSome]
  rw [e]
  rcases named_cases l n with ⟨h1, h2⟩ | ⟨k, _, h1, h2⟩
  · rw [h1, h2]; rfl
  · rw [h1, h2]
    simp

/-! ### the walks -/
theorem closure_named (x n : List UInt8) (u : Value) (b : Nat) (w : World) (hb : b < w.heap.size) (hc : w.cell? ⟨b, 0, none⟩ = some (.string ⟨⟨n⟩⟩)) :
    Calls Tryd.prog 26 #[.agg #[.string ⟨⟨x⟩⟩, u], .pointer (some ⟨b, 0, none⟩)] w fun e w' => e = .returned (.bool (x == n)) ∧ Ext w w' := by
  have hc2 := (((Below.refl w.heap.size w).alloc (Nat.le_refl _) (.cells #[.string ⟨⟨x⟩⟩, u] 42)).cell (p := ⟨b, 0, none⟩) hb).trans hc
  by_cases h : x = n
  · subst h
    have e : (x == x) = true := by simp
    rw [e]
    go_enter Tryd.func26, Tryd.ntmps26
    go_wp2
    go_ret
    exact ⟨rfl, (Below.refl _ _).alloc (Nat.le_refl _) _⟩
  · have e : (x == n) = false := by simpa using h
    rw [e]
    go_enter Tryd.func26, Tryd.ntmps26
    go_wp2
    go_ret
    exact ⟨rfl, (Below.refl _ _).alloc (Nat.le_refl _) _⟩
set_option maxHeartbeats 2000000 in
theorem indexFunc_dir (v : Value) (ds : List Dir) (n : List UInt8) (b : Nat) (w : World) (H : DirsAt w v ds) (hl : ds.length ≤ 1000000) (hb : b < w.heap.size) (hc : w.cell? ⟨b, 0, none⟩ = some (.string ⟨⟨n⟩⟩)) :
    Calls Tryd.prog 25 #[v, .func (.func 26) #[] #[.pointer (some ⟨b, 0, none⟩)]] w fun e w' => e = .returned (.int .i64 (namedI ds n)) ∧ Ext w w' := by
  obtain ⟨a, cap, us, rfl, hml, hsub, hnm, hcells⟩ := H
  have hcells : ∀ k (hk : k < ds.length), ∃ b off, a = some ⟨b, off, none⟩ ∧ b < w.heap.size ∧ w.cell? ⟨b, off + k * 2, none⟩ = some (.string ⟨⟨ds[k].name⟩⟩) ∧ w.cell? ⟨b, off + k * 2 + 1, none⟩ = some (us k) := by
    intro k hk
    rcases hcells with h | ⟨b, off, e, h1, h2⟩
    · subst h; simp at hk
    · exact ⟨b, off, e, h1, h2 k hk⟩
  have HC := Lib.hid hcells
  clear hcells hml hsub hnm
  go_enter Tryd.func25, Tryd.ntmps25
  go_wp2_with fail
  go_loopw [5, 8] (fun _ i wr => ∃ k : Nat, i = .int .i64 k ∧ k ≤ ds.length ∧ Ext w wr ∧ Hid (∀ j (hj : j < k), isD n (ds.getD j ⟨[], []⟩) = false)) (fun _ i _ => ds.length - (intOf i).toNat)
  case atStart => exact ⟨0, rfl, by omega, Ext.refl w, Lib.hid (fun j hj => by omega)⟩
  case round =>
    obtain ⟨k, rfl, hk, hx, HN⟩ := hrel
    by_cases hlt : k < ds.length
    · obtain ⟨b2, off, rfl, hb2, c1, c2⟩ := HC.out k hlt
      have c1' := (hx.cell (p := ⟨b2, off + k * 2, none⟩) hb2).trans c1
      have c2' := (hx.cell (p := ⟨b2, off + k * 2 + 1, none⟩) hb2).trans c2
      have hc' := (hx.cell (p := ⟨b, 0, none⟩) hb).trans hc
      have hbx : b < wr.heap.size := Nat.lt_of_lt_of_le hb hx.size
      clear c1 c2 HC
      obtain ⟨x, hxx⟩ : ∃ x, ds[k].name = x := ⟨_, rfl⟩
      have HX := Lib.hid hxx
      rw [hxx] at c1'
      clear hxx
      cases hq : (x == n)
      · have HQ := Lib.hid hq
        clear hq
        go_wp2_with (go_at_call 26; refine (closure_named x n (us k) b _ hbx hc').mono ?_; rintro e w1 ⟨rfl, hx1⟩; rw [HQ.out])
        go_roundw
        case rel =>
          refine ⟨k + 1, by go_num, by omega, hx.trans hx1, Lib.hid (fun j hj => ?_)⟩
          by_cases e : j = k
          · subst e
            rw [List.getD_eq_getElem?_getD, List.getElem?_eq_getElem hlt]
            show (ds[j].name == n) = false
            rw [HX.out, HQ.out]
          · exact HN.out j (by omega)
        case measure => simp [intOf]; omega
      · have HQ := Lib.hid hq
        clear hq
        go_wp2_with (go_at_call 26; refine (closure_named x n (us k) b _ hbx hc').mono ?_; rintro e w1 ⟨rfl, hx1⟩; rw [HQ.out])
        go_ret
        refine ⟨ret_inj (int_eq ?_), hx.trans hx1⟩
        unfold namedI
        rw [idxG_hit (isD n) ds k hlt 0 (fun j hj => by
          have := HN.out j hj
          rwa [List.getD_eq_getElem?_getD, List.getElem?_eq_getElem (by omega)] at this) (by show (ds[k].name == n) = true; rw [HX.out, HQ.out])]
        omega
    · have hkl : k = ds.length := by omega
      subst hkl
      go_wp2_with fail
      go_ret
      refine ⟨ret_inj (int_eq ?_), hx⟩
      unfold namedI
      rw [idxG_miss (isD n) ds 0 (fun j hj => by
        have := HN.out j hj
        rwa [List.getD_eq_getElem?_getD, List.getElem?_eq_getElem (by omega)] at this)]
theorem named_any (v : Value) (ds : List Dir) (n : List UInt8) (w : World) (H : DirsAt w v ds) (hl : ds.length ≤ 1000000) :
    Calls Tryd.prog 16 #[v, .string ⟨⟨n⟩⟩] w fun e w' => e = .returned (.int .i64 (namedI ds n)) ∧ Ext w w' := by
  have hb1 : Below w.heap.size w (w.alloc (.cells #[.string ⟨⟨n⟩⟩] 9)) := (Below.refl w.heap.size w).alloc (Nat.le_refl _) _
  have c := indexFunc_dir v ds n w.heap.size (w.alloc (.cells #[.string ⟨⟨n⟩⟩] 9)) (H.ext hb1) hl (by simp) (by simp)
  go_enter Tryd.func16, Tryd.ntmps16
  go_wp2_with (go_at_call 25; refine c.mono ?_; rintro e w1 ⟨rfl, hx1⟩)
  go_ret
  exact ⟨rfl, Ext.trans hb1 hx1⟩
end Go.Proofs.YtfaomejdoljfnaaDoor
