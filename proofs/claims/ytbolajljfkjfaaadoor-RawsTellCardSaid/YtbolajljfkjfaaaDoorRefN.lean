/-
  What is proved: refs.named: the longest name at a text's front. A contract. No condition but the text's size.
-/
import Derived.Test.YtbolajljfkjfaaaDoorRefD
namespace Go.Proofs.YtbolajljfkjfaaaDoor
open Go.RowKit
open Go.Maps (Keyed)

theorem prefix_drop_head (s p : List UInt8) : ([59] : List UInt8).isPrefixOf (s.drop p.length) = decide ((s.drop p.length).head? = some 59) := by
  cases s.drop p.length with
  | nil => rfl
  | cons a t => rw [Bool.eq_iff_iff]; simp [List.isPrefixOf]; exact eq_comm
theorem prefix_semi (s p : List UInt8) : (p ++ [59]).isPrefixOf s = (p.isPrefixOf s && decide ((s.drop p.length).head? = some 59)) := by
  rw [Bool.eq_iff_iff, List.isPrefixOf_iff_prefix, Bool.and_eq_true, List.isPrefixOf_iff_prefix, decide_eq_true_eq]
  constructor
  · rintro ⟨t, rfl⟩
    exact ⟨⟨[59] ++ t, by simp⟩, by simp⟩
  · rintro ⟨⟨t, rfl⟩, h⟩
    simp only [List.drop_left] at h
    cases t with
    | nil => cases h
    | cons a t =>
      simp only [List.head?_cons, Option.some.injEq] at h
      subst h
      exact ⟨t, by simp⟩
theorem ev_congr {s : List UInt8} {x y : Nm} (h : x.name = y.name) (hl : x.loose = y.loose) : ev s x = ev s y := by
  unfold ev; rw [h, hl]
/-- What is seen in the first loop, what in the second. -/
def seen1 (left : Lit → Bool) (x : Nm) : Prop := x.loose = true ∧ left (.string x.name) = false
def seen2 (left : Lit → Bool) (x : Nm) : Prop := x.loose = true ∨ left (.string x.name) = false
theorem strike {left : Lit → Bool} {k n : List UInt8} : (left (.string n) && !(Lit.string n).sameKey (.string k)) = false ↔ left (.string n) = false ∨ n = k := by
  show (left (.string n) && !(n == k)) = false ↔ _
  cases left (.string n) <;> simp
theorem best_more {s : List UInt8} {p : Nm → Prop} {t : List UInt8} {m : Nat} (h : Best s p t m) {x : Nm} (hx : x ∈ allN) (q : Nm → Prop) (hq : ∀ y ∈ allN, q y ↔ p y ∨ (y.name = x.name ∧ y.loose = x.loose)) :
    (m ≤ ev s x → 0 < ev s x → Best s q x.text (ev s x)) ∧ (ev s x ≤ m → Best s q t m) := by
  obtain ⟨a, b⟩ := h
  refine ⟨fun h1 h0 => ⟨fun y hy sy => ?_, .inr ⟨x, hx, (hq x hx).2 (.inr ⟨rfl, rfl⟩), rfl, h0, rfl⟩⟩, fun h1 => ⟨fun y hy sy => ?_, ?_⟩⟩
  · rcases (hq y hy).1 sy with h | ⟨h2, h3⟩
    · exact Nat.le_trans (a y hy h) h1
    · rw [ev_congr h2 h3]; exact Nat.le_refl _
  · rcases (hq y hy).1 sy with h | ⟨h2, h3⟩
    · exact a y hy h
    · rw [ev_congr h2 h3]; exact h1
  · rcases b with b | ⟨y, hy, sy, b⟩
    · exact .inl b
    · exact .inr ⟨y, hy, (hq y hy).2 (.inl sy), b⟩
/-- A round of the first loop. -/
theorem round1 {s : List UInt8} {left : Lit → Bool} {t : List UInt8} {m : Nat} (h : Best s (seen1 left) t m) {k c : List UInt8} (hat : ∀ zd, looseD.atKey (.string k) zd = .lit (.string c)) :
    (k.isPrefixOf s = true → m ≤ k.length → Best s (seen1 fun z => left z && !z.sameKey (.string k)) c (if (s.drop k.length).head? = some 59 then k.length + 1 else k.length)) ∧
    ((k.isPrefixOf s = false ∨ k.length < m) → Best s (seen1 fun z => left z && !z.sameKey (.string k)) t m) := by
  obtain ⟨x, hx, rfl, rfl⟩ := entry_some loose_entries hat
  obtain ⟨ha, hl⟩ := mem_loose hx
  have hb := best_more h ha (seen1 fun z => left z && !z.sameKey (.string x.name)) (fun y hy => by
    unfold seen1
    rw [strike]
    cases hy2 : y.loose <;> simp [hl])
  have hn : x.name ≠ [] := by
    have := List.all_eq_true.1 names_ok x ha
    intro e
    simp [e] at this
  have hn2 : 0 < x.name.length := List.length_pos_iff.2 hn
  constructor
  · intro hp hm
    have he : ev s x = if (s.drop x.name.length).head? = some 59 then x.name.length + 1 else x.name.length := by
      unfold ev
      rw [hp, hl]
      simp
    rw [← he]
    refine hb.1 ?_ ?_ <;> rw [he] <;> split <;> omega
  · intro hp
    refine hb.2 ?_
    unfold ev
    rcases hp with hp | hp
    · simp [hp]
    · split
      · split
        · omega
        · omega
      · omega
theorem best_end1 {s : List UInt8} {left : Lit → Bool} {t : List UInt8} {m : Nat} (h : Best s (seen1 left) t m) (h0 : ∀ kl, left kl = false) : Best s (seen2 (Maps.has strictD)) t m := by
  refine ⟨fun y hy sy => ?_, ?_⟩
  · rcases sy with sy | sy
    · exact h.1 y hy ⟨sy, h0 _⟩
    · cases hl : y.loose
      · rw [List.all_eq_true.1 strict_has y (of_strict hy hl)] at sy
        cases sy
      · exact h.1 y hy ⟨hl, h0 _⟩
  · rcases h.2 with b | ⟨y, hy, sy, b⟩
    · exact .inl b
    · exact .inr ⟨y, hy, .inl sy.1, b⟩
theorem round2 {s : List UInt8} {left : Lit → Bool} {t : List UInt8} {m : Nat} (h : Best s (seen2 left) t m) {k c : List UInt8} (hat : ∀ zd, strictD.atKey (.string k) zd = .lit (.string c)) :
    ((k ++ [59]).isPrefixOf s = true → m ≤ k.length → Best s (seen2 fun z => left z && !z.sameKey (.string k)) c (k.length + 1)) ∧
    (((k ++ [59]).isPrefixOf s = false ∨ k.length < m) → Best s (seen2 fun z => left z && !z.sameKey (.string k)) t m) := by
  obtain ⟨x, hx, rfl, rfl⟩ := entry_some strict_entries hat
  obtain ⟨ha, hl⟩ := mem_strict hx
  have hb := best_more h ha (seen2 fun z => left z && !z.sameKey (.string x.name)) (fun y hy => by
    unfold seen2
    rw [strike]
    cases hy2 : y.loose <;> simp [hl])
  rw [prefix_semi]
  constructor
  · intro hp hm
    simp only [Bool.and_eq_true, decide_eq_true_eq] at hp
    have he : ev s x = x.name.length + 1 := by
      unfold ev
      rw [hp.1, hp.2]
      simp
    rw [← he]
    refine hb.1 ?_ ?_ <;> rw [he] <;> omega
  · intro hp
    refine hb.2 ?_
    unfold ev
    rcases hp with hp | hp
    · simp only [Bool.and_eq_false_iff, decide_eq_false_iff_not] at hp
      rcases hp with hp | hp
      · simp [hp]
      · rw [hl]; simp only [hp, if_false, Bool.false_eq_true, ite_self]; omega
    · split
      · split
        · omega
        · rw [hl]; simp
      · omega
theorem names_short : strictN.all (fun x => decide (x.name.length ≤ 10)) = true := by decide +kernel
theorem strict_short {k c : List UInt8} (hat : ∀ zd, strictD.atKey (.string k) zd = .lit (.string c)) : (k.length : Int) ≤ 10 := by
  obtain ⟨x, hx, rfl, rfl⟩ := entry_some strict_entries hat
  have := List.all_eq_true.1 names_short x hx
  simp only [decide_eq_true_eq] at this
  omega
theorem best_start (s : List UInt8) : Best s (seen1 (Maps.has looseD)) [] 0 := by
  refine ⟨fun y hy sy => ?_, .inl ⟨rfl, rfl⟩⟩
  have := List.all_eq_true.1 loose_has y (of_loose hy sy.1)
  have h2 := sy.2
  rw [this] at h2
  cases h2
theorem best_end2 {s : List UInt8} {left : Lit → Bool} {t : List UInt8} {m : Nat} (h : Best s (seen2 left) t m) (h0 : ∀ kl, left kl = false) : Best s (fun _ => True) t m := by
  refine ⟨fun y hy _ => h.1 y hy (.inr (h0 _)), ?_⟩
  rcases h.2 with b | ⟨y, hy, sy, b⟩
  · exact .inl b
  · exact .inr ⟨y, hy, trivial, b⟩

theorem named_loose_key : Keyed Tryd.prog 9 := Maps.string_keyed Tryd.underlying9
theorem below_grown' {B : Nat} {a b c : World} {row : Option Nat} (h : Below B a b) (k : b.grownBy c row) (hB : B ≤ b.heap.size) (hr : ∀ j, row = some j → B ≤ j) : Below B a c :=
  ⟨k.os.trans h.os, k.tape.trans h.tape, k.output.trans h.output, Nat.le_trans h.size k.size, fun i hi => (k.block i (by omega) (fun e => by have := hr i e.symm; omega)).trans (h.block i hi)⟩
theorem prefix_len {p s : List UInt8} (h : p.isPrefixOf s = true) : (p.length : Int) ≤ s.length := by
  have := (List.isPrefixOf_iff_prefix.1 h).length_le
  omega
/-- What the call of 'named' hands back. -/
def NamedRes (s : List UInt8) (w : World) (e : Ending) (w' : World) : Prop :=
  ∃ t m, e = .returned (.tuple #[.string ⟨⟨t⟩⟩, .int .i64 (m : Nat)]) ∧ Best s (fun _ => True) t m ∧ Ext w w'
set_option maxRecDepth 100000 in
set_option maxHeartbeats 1000000 in
theorem named_any (s : List UInt8) (w : World) (hs : s.length ≤ 100000) : Calls Tryd.prog 85 #[.string ⟨⟨s⟩⟩] w (NamedRes s w) := by
  go_enter Tryd.func85, Tryd.ntmps85
  go_wp2_with (first
    | (go_at_call 97; refine (loose_any _).mono ?_; rintro e w1 ⟨rfl, hown1, x1⟩)
    | (at_range; refine wpList_range_own _ rfl _ 107 rfl 9 9 named_loose_key Tryd.underlying107 _ _ _ looseD rfl hown1 ?_; intro w2 hrg2 hg2 hs2))
  go_frame
  go_loopw [4, 5] (fun t m wr => ∃ (left : Lit → Bool) (cnt : Nat) (T : List UInt8) (M : Nat), t = .string ⟨⟨T⟩⟩ ∧ m = .int .i64 (M : Nat) ∧ wr.ranges Tryd.prog 9 (plainElem Tryd.prog 9) w.heap.size w1.heap.size looseN.length looseD left cnt ∧ Best s (seen1 left) T M ∧ w.heap.size ≤ w1.heap.size ∧ w1.heap.size < wr.heap.size ∧ Ext w wr)
    (fun _ _ wr => wr.rangeLeft w.heap.size w1.heap.size)
  case atStart => exact ⟨_, _, [], 0, rfl, rfl, hrg2, best_start s, x1.size, by omega, below_grown' x1 hg2 x1.size (by simp)⟩
  case round =>
    obtain ⟨left, cnt, T, M, rfl, rfl, hrg, hbest, hle, hlt, hx⟩ := hrel
    go_wp2_with (first
      | (at_next; refine wpList_next_ss _ rfl _ rfl 9 Tryd.underlying9 w.heap.size w1.heap.size _ _ _ _ rfl hrg ?_ ?_)
      | go_in)
    · intro _ hl0
      have hb2 := best_end1 hbest hl0
      clear hbest
      go_wp2_with (first
        | (go_at_call 98; refine (strict_any _).mono ?_; rintro e w4 ⟨rfl, hown4, x4⟩)
        | (at_range; refine wpList_range_own _ rfl _ 107 rfl 9 9 named_loose_key Tryd.underlying107 _ _ _ strictD rfl hown4 ?_; intro w5 hrg5 hg5 hs5))
      go_frame
      have hx5 : Ext w w5 := below_grown' (Ext.trans hx x4) hg5 (Nat.le_trans hx.size x4.size) (by simp)
      have x4s := x4.size
      have hle4 : w.heap.size ≤ wr.heap.size := hx.size
      clear hg5 hown4 hrg2 hg2 hown1
      obtain ⟨wo, rfl⟩ : ∃ wo : World, wo = wr := ⟨_, rfl⟩
      clear hrg hlt hx x4
      go_loopw [4, 5] (fun t m wr => ∃ (left : Lit → Bool) (cnt : Nat) (T : List UInt8) (M : Nat), t = .string ⟨⟨T⟩⟩ ∧ m = .int .i64 (M : Nat) ∧ wr.ranges Tryd.prog 9 (plainElem Tryd.prog 9) wo.heap.size w4.heap.size strictN.length strictD left cnt ∧ Best s (seen2 left) T M ∧ w4.heap.size < wr.heap.size ∧ Ext w wr)
        (fun _ _ wr => wr.rangeLeft wo.heap.size w4.heap.size)
      case atStart => exact ⟨_, _, T, M, rfl, rfl, hrg5, hb2, by omega, hx5⟩
      case round =>
        obtain ⟨left, cnt, T, M, rfl, rfl, hrg, hbest, hlt, hx⟩ := hrel
        go_wp2_with (first
          | (at_next; refine wpList_next_ss _ rfl _ rfl 9 Tryd.underlying9 wo.heap.size w4.heap.size _ _ _ _ rfl hrg ?_ ?_)
          | go_in)
        · intro _ hl0
          have hb3 := best_end2 hbest hl0
          clear hbest
          go_wp2
          go_ret2
          exact ⟨_, _, rfl, hb3, hx⟩
        · intro k c w3 cnt3 hk hc hlk hat hrg3 hcnt3 hg3 hs3 hen
          have hr := round2 hbest hat
          have hk10 := strict_short hat
          have hx3 : Ext w w3 := below_grown' hx hg3 hx.size (by rintro j ⟨⟩; omega)
          have h3 : w4.heap.size < w3.heap.size := by omega
          cases hp : (k ++ [59]).isPrefixOf s
          · have hr := hr.2 (.inl hp)
            have HP := Lib.hid hp
            have HR := Lib.hid hr
            clear hp hr hbest
            go_wp2_with (go_at_call 67; refine (hasPrefix_any _ _ _).mono ?_; rintro e w6 ⟨rfl, rfl⟩; rw [HP.out])
            go_roundw
            case rel => exact ⟨_, cnt3, T, M, rfl, rfl, hrg3, HR.out, h3, hx3⟩
            case measure => rw [hrg3.left_eq, hrg.left_eq]; exact hcnt3
          · have hl := prefix_len hp
            simp only [List.length_append, List.length_cons, List.length_nil] at hl
            by_cases hq : (M : Int) ≤ k.length
            · have hr := hr.1 hp (by omega)
              have HP := Lib.hid hp
              have HR := Lib.hid hr
              clear hp hr hbest
              go_wp2_with (go_at_call 67; refine (hasPrefix_any _ _ _).mono ?_; rintro e w6 ⟨rfl, rfl⟩; rw [HP.out])
              go_roundw
              case rel => exact ⟨_, cnt3, c, k.length + 1, rfl, by go_num, hrg3, HR.out, h3, hx3⟩
              case measure => rw [hrg3.left_eq, hrg.left_eq]; exact hcnt3
            · have hq2 : (k.length : Int) < M := by omega
              have hr := hr.2 (.inr (by omega))
              have HP := Lib.hid hp
              have HR := Lib.hid hr
              clear hp hr hbest
              go_wp2_with (go_at_call 67; refine (hasPrefix_any _ _ _).mono ?_; rintro e w6 ⟨rfl, rfl⟩; rw [HP.out])
              go_roundw
              case rel => exact ⟨_, cnt3, T, M, rfl, rfl, hrg3, HR.out, h3, hx3⟩
              case measure => rw [hrg3.left_eq, hrg.left_eq]; exact hcnt3
    · intro k c w3 cnt3 hk hc hlk hat hrg3 hcnt3 hg3 hs3 hen
      have hr := round1 hbest hat
      have hx3 : Ext w w3 := below_grown' hx hg3 hx.size (by rintro j ⟨⟩; exact hle)
      have h3 : w1.heap.size < w3.heap.size := by omega
      cases hp : k.isPrefixOf s
      · have hr := hr.2 (.inl hp)
        have HP := Lib.hid hp
        have HR := Lib.hid hr
        clear hp hr hbest
        go_wp2_with (go_at_call 67; refine (hasPrefix_any _ _ _).mono ?_; rintro e w4 ⟨rfl, rfl⟩; rw [HP.out])
        go_roundw
        case rel => exact ⟨_, cnt3, T, M, rfl, rfl, hrg3, HR.out, hle, h3, hx3⟩
        case measure => rw [hrg3.left_eq, hrg.left_eq]; exact hcnt3
      · have hl := prefix_len hp
        by_cases hq : (M : Int) ≤ k.length
        · have hr := hr.1 hp (by omega)
          have hpd := prefix_drop_head s k
          cases hp2 : ([59] : List UInt8).isPrefixOf (s.drop k.length)
          · rw [hp2] at hpd
            rw [if_neg (by simpa using hpd.symm)] at hr
            have HP := Lib.hid hp
            have HP2 := Lib.hid hp2
            have HR := Lib.hid hr
            clear hp hp2 hr hbest hpd
            go_wp2_with (go_at_call 67; refine (hasPrefix_any _ _ _).mono ?_; rintro e w4 ⟨rfl, rfl⟩; first | rw [HP.out] | rw [HP2.out])
            go_roundw
            case rel => exact ⟨_, cnt3, c, k.length, rfl, rfl, hrg3, HR.out, hle, h3, hx3⟩
            case measure => rw [hrg3.left_eq, hrg.left_eq]; exact hcnt3
          · rw [hp2] at hpd
            rw [if_pos (by simpa using hpd.symm)] at hr
            have HP := Lib.hid hp
            have HP2 := Lib.hid hp2
            have HR := Lib.hid hr
            clear hp hp2 hr hbest hpd
            go_wp2_with (go_at_call 67; refine (hasPrefix_any _ _ _).mono ?_; rintro e w4 ⟨rfl, rfl⟩; first | rw [HP.out] | rw [HP2.out])
            go_roundw
            case rel => exact ⟨_, cnt3, c, k.length + 1, rfl, by go_num, hrg3, HR.out, hle, h3, hx3⟩
            case measure => rw [hrg3.left_eq, hrg.left_eq]; exact hcnt3
        · have hq2 : (k.length : Int) < M := by omega
          have hr := hr.2 (.inr (by omega))
          have HP := Lib.hid hp
          have HR := Lib.hid hr
          clear hp hr hbest
          go_wp2_with (go_at_call 67; refine (hasPrefix_any _ _ _).mono ?_; rintro e w4 ⟨rfl, rfl⟩; rw [HP.out])
          go_roundw
          case rel => exact ⟨_, cnt3, T, M, rfl, rfl, hrg3, HR.out, hle, h3, hx3⟩
          case measure => rw [hrg3.left_eq, hrg.left_eq]; exact hcnt3
end Go.Proofs.YtbolajljfkjfaaaDoor
