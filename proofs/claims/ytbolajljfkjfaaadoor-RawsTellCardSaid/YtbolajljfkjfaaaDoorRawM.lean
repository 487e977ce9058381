/-
  What is proved: doctypes, as the program reads them: a contract. Conditions: texts of less than 100000 bytes; the library's variable holds an integer.
-/
import Derived.Test.YtbolajljfkjfaaaDoorRawD
import Derived.Test.YtbolajljfkjfaaaDoorRawK
import Derived.Deep.RegionHeld3
namespace Go.Proofs.YtbolajljfkjfaaaDoor
open Go.RowKit

/-- A doctype at a place. -/
def docI (s : List UInt8) (i : Int) : Option (List UInt8 × Bool × Nat) := if i < 0 ∨ (s.length : Int) < i then none else docP (s.drop i.toNat)
def docV (s : List UInt8) (i : Int) : Value := match docI s i with
  | none => noneR
  | some (n, q, m) => tokR (tokV 1 n [] q i (i + m)) (i + m)
theorem docV_some {s n : List UInt8} {q : Bool} {i : Int} {m : Nat} {z : Int} (h : docI s i = some (n, q, m)) (hz : i + (m : Int) = z) : docV s i = tokR (tokV 1 n [] q i z) z := by
  unfold docV
  rw [h]
  subst hz
  rfl
theorem docV_none {s : List UInt8} {i : Int} (h : docI s i = none) : docV s i = noneR := by
  unfold docV
  rw [h]
theorem doc_cases (s : List UInt8) (i : Int) : (behI docF s i = none ∧ docI s i = none) ∨
    (∃ r, behI docF s i = some r ∧ docI s i = some (lowL (cleanL (til blankB (skipB (upB [62] r).1))), (til blankB (skipB (upB [62] r).1)).isEmpty || !(skipB (past blankB (skipB (upB [62] r).1))).isEmpty || !(upB [62] r).2.2, 9 + (upB [62] r).2.1)) := by
  by_cases h : i < 0 ∨ (s.length : Int) < i
  · exact .inl ⟨behI_out h, by unfold docI; rw [if_pos h]⟩
  · rw [behI_in h]
    unfold docI docP
    rw [if_neg h]
    cases standsB docF (s.drop i.toNat) with
    | false => exact .inl ⟨rfl, rfl⟩
    | true => exact .inr ⟨_, rfl, rfl⟩
/-- The first blank parts a text. -/
theorem any_cases (x : List UInt8) : (anyI x = -1 ∧ til blankB x = x ∧ past blankB x = []) ∨ (∃ m : Nat, anyI x = m ∧ m ≤ x.length ∧ til blankB x = x.take m ∧ past blankB x = x.drop m) := by
  have e := til_past blankB x
  unfold anyI
  by_cases h : past blankB x = []
  · rw [if_pos h]
    rw [h, List.append_nil] at e
    exact .inl ⟨rfl, e, h⟩
  · rw [if_neg h]
    have hl := congrArg List.length e
    rw [List.length_append] at hl
    refine .inr ⟨_, rfl, by omega, ?_, ?_⟩
    · have := congrArg (List.take (til blankB x).length) e
      rw [List.take_left' rfl] at this
      exact this
    · have := congrArg (List.drop (til blankB x).length) e
      rw [List.drop_left' rfl] at this
      exact this
theorem emp_beq (l : List UInt8) : l.isEmpty = (l == []) := by cases l <;> rfl
theorem tok_set {w : World} {b : Nat} {T : TypeId} {v0 v1 v2 v3 v4 v5 v6 v7 v8 : Value} (u0 u1 u2 u3 u4 u5 u6 u7 u8 : Value) (h : w.heap[b]? = some (.cells #[v0, v1, v2, v3, v4, v5, v6, v7, v8] T)) :
    (((((((((w.setCell ⟨b, 0, none⟩ u0).setCell ⟨b, 1, none⟩ u1).setCell ⟨b, 2, none⟩ u2).setCell ⟨b, 3, none⟩ u3).setCell ⟨b, 4, none⟩ u4).setCell ⟨b, 5, none⟩ u5).setCell ⟨b, 6, none⟩ u6).setCell ⟨b, 7, none⟩ u7).setCell ⟨b, 8, none⟩ u8).heap[b]? = some (.cells #[u0, u1, u2, u3, u4, u5, u6, u7, u8] T) := by
  have h0 : (w.setCell ⟨b, 0, none⟩ u0).heap[b]? = some (.cells #[u0, v1, v2, v3, v4, v5, v6, v7, v8] T) := heap_setCell_same _ b 0 _ T u0 h
  have h1 : ((w.setCell ⟨b, 0, none⟩ u0).setCell ⟨b, 1, none⟩ u1).heap[b]? = some (.cells #[u0, u1, v2, v3, v4, v5, v6, v7, v8] T) := heap_setCell_same _ b 1 _ T u1 h0
  have h2 : (((w.setCell ⟨b, 0, none⟩ u0).setCell ⟨b, 1, none⟩ u1).setCell ⟨b, 2, none⟩ u2).heap[b]? = some (.cells #[u0, u1, u2, v3, v4, v5, v6, v7, v8] T) := heap_setCell_same _ b 2 _ T u2 h1
  have h3 : ((((w.setCell ⟨b, 0, none⟩ u0).setCell ⟨b, 1, none⟩ u1).setCell ⟨b, 2, none⟩ u2).setCell ⟨b, 3, none⟩ u3).heap[b]? = some (.cells #[u0, u1, u2, u3, v4, v5, v6, v7, v8] T) := heap_setCell_same _ b 3 _ T u3 h2
  have h4 : (((((w.setCell ⟨b, 0, none⟩ u0).setCell ⟨b, 1, none⟩ u1).setCell ⟨b, 2, none⟩ u2).setCell ⟨b, 3, none⟩ u3).setCell ⟨b, 4, none⟩ u4).heap[b]? = some (.cells #[u0, u1, u2, u3, u4, v5, v6, v7, v8] T) := heap_setCell_same _ b 4 _ T u4 h3
  have h5 : ((((((w.setCell ⟨b, 0, none⟩ u0).setCell ⟨b, 1, none⟩ u1).setCell ⟨b, 2, none⟩ u2).setCell ⟨b, 3, none⟩ u3).setCell ⟨b, 4, none⟩ u4).setCell ⟨b, 5, none⟩ u5).heap[b]? = some (.cells #[u0, u1, u2, u3, u4, u5, v6, v7, v8] T) := heap_setCell_same _ b 5 _ T u5 h4
  have h6 : (((((((w.setCell ⟨b, 0, none⟩ u0).setCell ⟨b, 1, none⟩ u1).setCell ⟨b, 2, none⟩ u2).setCell ⟨b, 3, none⟩ u3).setCell ⟨b, 4, none⟩ u4).setCell ⟨b, 5, none⟩ u5).setCell ⟨b, 6, none⟩ u6).heap[b]? = some (.cells #[u0, u1, u2, u3, u4, u5, u6, v7, v8] T) := heap_setCell_same _ b 6 _ T u6 h5
  have h7 : ((((((((w.setCell ⟨b, 0, none⟩ u0).setCell ⟨b, 1, none⟩ u1).setCell ⟨b, 2, none⟩ u2).setCell ⟨b, 3, none⟩ u3).setCell ⟨b, 4, none⟩ u4).setCell ⟨b, 5, none⟩ u5).setCell ⟨b, 6, none⟩ u6).setCell ⟨b, 7, none⟩ u7).heap[b]? = some (.cells #[u0, u1, u2, u3, u4, u5, u6, u7, v8] T) := heap_setCell_same _ b 7 _ T u7 h6
  have h8 : (((((((((w.setCell ⟨b, 0, none⟩ u0).setCell ⟨b, 1, none⟩ u1).setCell ⟨b, 2, none⟩ u2).setCell ⟨b, 3, none⟩ u3).setCell ⟨b, 4, none⟩ u4).setCell ⟨b, 5, none⟩ u5).setCell ⟨b, 6, none⟩ u6).setCell ⟨b, 7, none⟩ u7).setCell ⟨b, 8, none⟩ u8).heap[b]? = some (.cells #[u0, u1, u2, u3, u4, u5, u6, u7, u8] T) := heap_setCell_same _ b 8 _ T u8 h7
  exact h8
theorem tok_end {w : World} {b : Nat} {T : TypeId} {v0 v1 v2 v3 v4 v5 v6 v7 v8 : Value} (h : w.heap[b]? = some (.cells #[v0, v1, v2, v3, v4, v5, v6, v7, v8] T)) : (∀ a1 a6 u0 u1 u2 u3 u4 u5 u6 u7 u8 : Value, (((((((((((w.setCell ⟨b, 1, none⟩ a1).setCell ⟨b, 6, none⟩ a6).setCell ⟨b, 0, none⟩ u0).setCell ⟨b, 1, none⟩ u1).setCell ⟨b, 2, none⟩ u2).setCell ⟨b, 3, none⟩ u3).setCell ⟨b, 4, none⟩ u4).setCell ⟨b, 5, none⟩ u5).setCell ⟨b, 6, none⟩ u6).setCell ⟨b, 7, none⟩ u7).setCell ⟨b, 8, none⟩ u8).cell? ⟨b, 0, none⟩ = some u0) ∧ (∀ a1 a6 u0 u1 u2 u3 u4 u5 u6 u7 u8 : Value, (((((((((((w.setCell ⟨b, 1, none⟩ a1).setCell ⟨b, 6, none⟩ a6).setCell ⟨b, 0, none⟩ u0).setCell ⟨b, 1, none⟩ u1).setCell ⟨b, 2, none⟩ u2).setCell ⟨b, 3, none⟩ u3).setCell ⟨b, 4, none⟩ u4).setCell ⟨b, 5, none⟩ u5).setCell ⟨b, 6, none⟩ u6).setCell ⟨b, 7, none⟩ u7).setCell ⟨b, 8, none⟩ u8).cell? ⟨b, 1, none⟩ = some u1) ∧ (∀ a1 a6 u0 u1 u2 u3 u4 u5 u6 u7 u8 : Value, (((((((((((w.setCell ⟨b, 1, none⟩ a1).setCell ⟨b, 6, none⟩ a6).setCell ⟨b, 0, none⟩ u0).setCell ⟨b, 1, none⟩ u1).setCell ⟨b, 2, none⟩ u2).setCell ⟨b, 3, none⟩ u3).setCell ⟨b, 4, none⟩ u4).setCell ⟨b, 5, none⟩ u5).setCell ⟨b, 6, none⟩ u6).setCell ⟨b, 7, none⟩ u7).setCell ⟨b, 8, none⟩ u8).cell? ⟨b, 2, none⟩ = some u2) ∧ (∀ a1 a6 u0 u1 u2 u3 u4 u5 u6 u7 u8 : Value, (((((((((((w.setCell ⟨b, 1, none⟩ a1).setCell ⟨b, 6, none⟩ a6).setCell ⟨b, 0, none⟩ u0).setCell ⟨b, 1, none⟩ u1).setCell ⟨b, 2, none⟩ u2).setCell ⟨b, 3, none⟩ u3).setCell ⟨b, 4, none⟩ u4).setCell ⟨b, 5, none⟩ u5).setCell ⟨b, 6, none⟩ u6).setCell ⟨b, 7, none⟩ u7).setCell ⟨b, 8, none⟩ u8).cell? ⟨b, 3, none⟩ = some u3) ∧ (∀ a1 a6 u0 u1 u2 u3 u4 u5 u6 u7 u8 : Value, (((((((((((w.setCell ⟨b, 1, none⟩ a1).setCell ⟨b, 6, none⟩ a6).setCell ⟨b, 0, none⟩ u0).setCell ⟨b, 1, none⟩ u1).setCell ⟨b, 2, none⟩ u2).setCell ⟨b, 3, none⟩ u3).setCell ⟨b, 4, none⟩ u4).setCell ⟨b, 5, none⟩ u5).setCell ⟨b, 6, none⟩ u6).setCell ⟨b, 7, none⟩ u7).setCell ⟨b, 8, none⟩ u8).cell? ⟨b, 4, none⟩ = some u4) ∧ (∀ a1 a6 u0 u1 u2 u3 u4 u5 u6 u7 u8 : Value, (((((((((((w.setCell ⟨b, 1, none⟩ a1).setCell ⟨b, 6, none⟩ a6).setCell ⟨b, 0, none⟩ u0).setCell ⟨b, 1, none⟩ u1).setCell ⟨b, 2, none⟩ u2).setCell ⟨b, 3, none⟩ u3).setCell ⟨b, 4, none⟩ u4).setCell ⟨b, 5, none⟩ u5).setCell ⟨b, 6, none⟩ u6).setCell ⟨b, 7, none⟩ u7).setCell ⟨b, 8, none⟩ u8).cell? ⟨b, 5, none⟩ = some u5) ∧ (∀ a1 a6 u0 u1 u2 u3 u4 u5 u6 u7 u8 : Value, (((((((((((w.setCell ⟨b, 1, none⟩ a1).setCell ⟨b, 6, none⟩ a6).setCell ⟨b, 0, none⟩ u0).setCell ⟨b, 1, none⟩ u1).setCell ⟨b, 2, none⟩ u2).setCell ⟨b, 3, none⟩ u3).setCell ⟨b, 4, none⟩ u4).setCell ⟨b, 5, none⟩ u5).setCell ⟨b, 6, none⟩ u6).setCell ⟨b, 7, none⟩ u7).setCell ⟨b, 8, none⟩ u8).cell? ⟨b, 6, none⟩ = some u6) ∧ (∀ a1 a6 u0 u1 u2 u3 u4 u5 u6 u7 u8 : Value, (((((((((((w.setCell ⟨b, 1, none⟩ a1).setCell ⟨b, 6, none⟩ a6).setCell ⟨b, 0, none⟩ u0).setCell ⟨b, 1, none⟩ u1).setCell ⟨b, 2, none⟩ u2).setCell ⟨b, 3, none⟩ u3).setCell ⟨b, 4, none⟩ u4).setCell ⟨b, 5, none⟩ u5).setCell ⟨b, 6, none⟩ u6).setCell ⟨b, 7, none⟩ u7).setCell ⟨b, 8, none⟩ u8).cell? ⟨b, 7, none⟩ = some u7) ∧ (∀ a1 a6 u0 u1 u2 u3 u4 u5 u6 u7 u8 : Value, (((((((((((w.setCell ⟨b, 1, none⟩ a1).setCell ⟨b, 6, none⟩ a6).setCell ⟨b, 0, none⟩ u0).setCell ⟨b, 1, none⟩ u1).setCell ⟨b, 2, none⟩ u2).setCell ⟨b, 3, none⟩ u3).setCell ⟨b, 4, none⟩ u4).setCell ⟨b, 5, none⟩ u5).setCell ⟨b, 6, none⟩ u6).setCell ⟨b, 7, none⟩ u7).setCell ⟨b, 8, none⟩ u8).cell? ⟨b, 8, none⟩ = some u8) := by
  have key : ∀ a1 a6 u0 u1 u2 u3 u4 u5 u6 u7 u8 : Value, (((((((((((w.setCell ⟨b, 1, none⟩ a1).setCell ⟨b, 6, none⟩ a6).setCell ⟨b, 0, none⟩ u0).setCell ⟨b, 1, none⟩ u1).setCell ⟨b, 2, none⟩ u2).setCell ⟨b, 3, none⟩ u3).setCell ⟨b, 4, none⟩ u4).setCell ⟨b, 5, none⟩ u5).setCell ⟨b, 6, none⟩ u6).setCell ⟨b, 7, none⟩ u7).setCell ⟨b, 8, none⟩ u8).heap[b]? = some (.cells #[u0, u1, u2, u3, u4, u5, u6, u7, u8] T) := fun a1 a6 u0 u1 u2 u3 u4 u5 u6 u7 u8 => tok_set u0 u1 u2 u3 u4 u5 u6 u7 u8 (heap_setCell_same _ b 6 _ T a6 (heap_setCell_same _ b 1 _ T a1 h))
  exact ⟨fun a1 a6 u0 u1 u2 u3 u4 u5 u6 u7 u8 => (tok_cells (key a1 a6 u0 u1 u2 u3 u4 u5 u6 u7 u8)).1.1, fun a1 a6 u0 u1 u2 u3 u4 u5 u6 u7 u8 => (tok_cells (key a1 a6 u0 u1 u2 u3 u4 u5 u6 u7 u8)).1.2.1, fun a1 a6 u0 u1 u2 u3 u4 u5 u6 u7 u8 => (tok_cells (key a1 a6 u0 u1 u2 u3 u4 u5 u6 u7 u8)).1.2.2.1, fun a1 a6 u0 u1 u2 u3 u4 u5 u6 u7 u8 => (tok_cells (key a1 a6 u0 u1 u2 u3 u4 u5 u6 u7 u8)).1.2.2.2.1, fun a1 a6 u0 u1 u2 u3 u4 u5 u6 u7 u8 => (tok_cells (key a1 a6 u0 u1 u2 u3 u4 u5 u6 u7 u8)).1.2.2.2.2.1, fun a1 a6 u0 u1 u2 u3 u4 u5 u6 u7 u8 => (tok_cells (key a1 a6 u0 u1 u2 u3 u4 u5 u6 u7 u8)).1.2.2.2.2.2.1, fun a1 a6 u0 u1 u2 u3 u4 u5 u6 u7 u8 => (tok_cells (key a1 a6 u0 u1 u2 u3 u4 u5 u6 u7 u8)).1.2.2.2.2.2.2.1, fun a1 a6 u0 u1 u2 u3 u4 u5 u6 u7 u8 => (tok_cells (key a1 a6 u0 u1 u2 u3 u4 u5 u6 u7 u8)).1.2.2.2.2.2.2.2.1, fun a1 a6 u0 u1 u2 u3 u4 u5 u6 u7 u8 => (tok_cells (key a1 a6 u0 u1 u2 u3 u4 u5 u6 u7 u8)).1.2.2.2.2.2.2.2.2⟩
theorem block_on {w w1 : World} {b : Nat} {o : Obj} (x : Ext w w1) (h : w.heap[b]? = some o) : w1.heap[b]? = some o := (x.block b (Array.getElem?_eq_some_iff.1 h).1).trans h
set_option maxRecDepth 100000 in
set_option maxHeartbeats 16000000 in
theorem doc_any (s : List UInt8) (i : Int) (w : World) (hm : MaxIs w) (hs : s.length < 30000) (h0 : -9223372036854775808 ≤ i) (h1 : i ≤ 9223372036854775807) :
    Calls Tryd.prog 14 #[.string ⟨⟨s⟩⟩, .int .i64 i] w fun e w' => e = .returned (docV s i) ∧ Ext w w' := by
  rcases doc_cases s i with ⟨hb, hv⟩ | ⟨r, hb, hv⟩
  · have cb := behind_none hb (by omega) (by decide) h0 h1
    have HV := Lib.hid (docV_none hv)
    clear hb hv
    go_enter Tryd.func14, Tryd.ntmps14
    go_wp2_with (go_at_call 28; refine (cb _).mono ?_; rintro e w1 ⟨rfl, x1⟩; obtain ⟨hB, z1, hz1⟩ := tok_block x1; obtain ⟨⟨c0, c1, c2, c3, c4, c5, c6, c7, c8⟩, f0, f1, f2, f3, f4, f5, f6, f7, f8⟩ := tok_cells hB)
    refine bodyPost_ret (v := noneR) (by simp [results, Tryd.results14, go_sem, tokV, noneR, tokR, c0, c1, c2, c3, c4, c5, c6, c7, c8]) rfl ⟨ret_inj HV.out.symm, ?_⟩
    go_grown
  · have cb := behind_some hb (by omega) (by decide) h0 h1
    obtain ⟨q1, q2, q3, q4, q5⟩ := behI_some hb
    obtain ⟨t, n, b3, hu⟩ : ∃ t n b, upB [62] r = (t, n, b) := ⟨_, _, _, rfl⟩
    have hol : ((docF.length : Nat) : Int) = 9 := rfl
    have hrl : r.length < 30000 := by omega
    have cu := upto_at hu (by omega) (by decide)
    have hn := upB_le [62] r
    have ht := upB_len [62] r
    rw [hu] at hn ht hv
    dsimp only at hn ht hv
    have hsum : i + 9 + (n : Int) ≤ s.length := by omega
    have hsk := skipB_le t
    have ctl := fun W => trimLeft_any t W
    obtain ⟨x, hx⟩ : ∃ x, skipB t = x := ⟨_, rfl⟩
    rw [hx] at ctl hv hsk
    have hxl : x.length < 30000 := by omega
    have ca := fun W => indexAny_any x W (by omega)
    have hback : i + ((9 + n : Nat) : Int) = i + 9 + n := by omega
    clear hu hx q5 q3 hol hb
    rcases any_cases x with ⟨ha, ht1, hp1⟩ | ⟨m, ha, hml, ht1, hp1⟩
    · rw [ht1, hp1, emp_beq] at hv
      rw [ha] at ca
      have cc := fun W hW => clean_any x W hW (by omega)
      have hcl := cleanL_len x
      have cl := fun W => Lower_any (cleanL x) W (by omega)
      clear ht1 hp1 ha
      have HV : Hid (docV s i = tokR (tokV 1 (lowL (cleanL x)) [] ((x == []) || !(skipB []).isEmpty || !b3) i (i + 9 + n)) (i + 9 + n)) := Lib.hid (docV_some hv hback)
      clear hv hback
      obtain ⟨b1, hb1⟩ : ∃ b, (x == []) = b := ⟨_, rfl⟩
      have f1 : (x != []) = !b1 := by unfold bne; rw [hb1]
      rw [hb1] at HV
      cases b1 <;> cases b3
      all_goals
        go_enter Tryd.func14, Tryd.ntmps14
        go_wp2_with (first
          | (go_at_call 28; refine (cb _).mono ?_; rintro e w1 ⟨rfl, x1⟩; have hm1 := (hm.ext ((Below.refl _ _).alloc (Nat.le_refl _) _)).ext x1; have y1 := x1)
          | (go_at_call 34; refine (cu _ hm1).mono ?_; rintro e w2 ⟨rfl, rfl⟩)
          | (go_at_call 35; refine (ctl _).mono ?_; rintro e w3 ⟨rfl, x3⟩; have hm3 := hm1.ext x3; have y3 := y1.trans x3)
          | (go_at_call 36; refine (ca _).mono ?_; rintro e w4 ⟨rfl, x4⟩; have hm4 := hm3.ext x4; have y4 := y3.trans x4)
          | (go_at_call 30; refine (token_at _ _ _ _ _).mono ?_; rintro e w7 ⟨rfl, x7⟩; have y7 := y4.trans x7; obtain ⟨hB, z7, hz7⟩ := tok_block y7; obtain ⟨⟨c0, c1, c2, c3, c4, c5, c6, c7, c8⟩, f0, f1, f2, f3, f4, f5, f6, f7, f8⟩ := tok_cells hB)
          | (go_at_call 31; refine (cc _ ?hq).mono ?_; (case hq => exact hm.ext (by go_grown)); rintro e w8 ⟨rfl, x8⟩; have z8 : Ext w w8 := Ext.trans (by go_grown) x8; have hB8 := block_on x8 (tok_set _ _ _ _ _ _ _ _ _ hB))
          | (go_at_call 38; refine (cl _).mono ?_; rintro e w9 ⟨rfl, x9⟩; have z9 := z8.trans x9; have hB9 := block_on x9 hB8; obtain ⟨⟨c0, c1, c2, c3, c4, c5, c6, c7, c8⟩, f0, f1, f2, f3, f4, f5, f6, f7, f8⟩ := tok_cells hB9; obtain ⟨e0, e1, e2, e3, e4, e5, e6, e7, e8⟩ := tok_end hB9))
        refine bodyPost_ret (v := docV s i) (by rw [HV.out]; simp [results, Tryd.results14, go_sem, tokV, tokR, skipB, c0, c1, c2, c3, c4, c5, c6, c7, c8, e0, e1, e2, e3, e4, e5, e6, e7, e8]) rfl ⟨rfl, ?_⟩
        go_grown
    · rw [ht1, hp1, emp_beq, emp_beq, ← trimB_nil] at hv
      rw [ha] at ca
      have ct := fun W => trim_any (x.drop m) W (by simp; omega)
      have hcl := cleanL_len (x.take m)
      have hcm : (x.take m).length ≤ x.length := by simp; omega
      have cc := fun W hW => clean_any (x.take m) W hW (by omega)
      have cl := fun W => Lower_any (cleanL (x.take m)) W (by omega)
      have m0 : (0 : Int) ≤ (m : Int) := by omega
      have m1 : (m : Int) ≤ (x.length : Int) := by omega
      clear ht1 hp1 ha
      have HV : Hid (docV s i = tokR (tokV 1 (lowL (cleanL (x.take m))) [] ((x.take m == []) || !(trimB (x.drop m) == []) || !b3) i (i + 9 + n)) (i + 9 + n)) := Lib.hid (docV_some hv hback)
      clear hv hback
      obtain ⟨y, hy⟩ : ∃ y, x.take m = y := ⟨_, rfl⟩
      obtain ⟨z, hz⟩ : ∃ z, trimB (x.drop m) = z := ⟨_, rfl⟩
      rw [hy] at cc cl HV
      rw [hz] at ct HV
      obtain ⟨b1, hb1⟩ : ∃ b, (y == []) = b := ⟨_, rfl⟩
      obtain ⟨b2, hb2⟩ : ∃ b, (z == []) = b := ⟨_, rfl⟩
      have f1 : (y != []) = !b1 := by unfold bne; rw [hb1]
      have f2 : (z != []) = !b2 := by unfold bne; rw [hb2]
      rw [hb1, hb2] at HV
      clear hz
      cases b1 <;> cases b2 <;> cases b3
      all_goals
        go_enter Tryd.func14, Tryd.ntmps14
        go_wp2_with (first
          | (go_at_call 28; refine (cb _).mono ?_; rintro e w1 ⟨rfl, x1⟩; have hm1 := (hm.ext ((Below.refl _ _).alloc (Nat.le_refl _) _)).ext x1; have y1 := x1)
          | (go_at_call 34; refine (cu _ hm1).mono ?_; rintro e w2 ⟨rfl, rfl⟩)
          | (go_at_call 35; refine (ctl _).mono ?_; rintro e w3 ⟨rfl, x3⟩; have hm3 := hm1.ext x3; have y3 := y1.trans x3)
          | (go_at_call 36; refine (ca _).mono ?_; rintro e w4 ⟨rfl, x4⟩; have hm4 := hm3.ext x4; have y4 := y3.trans x4))
        go_region_held3 (fun _ => True) (trivial) (first | (go_at_call 37; refine (ct _).mono ?_; rintro e w6 ⟨rfl, x6⟩; have y6 := Ext.trans (Below.drew y4) x6))
        go_wp2_with (first
          | (go_at_call 30; refine (token_at _ _ _ _ _).mono ?_; rintro e w7 ⟨rfl, x7⟩; have y7 := y6.trans x7; obtain ⟨hB, z7, hz7⟩ := tok_block y7; obtain ⟨⟨c0, c1, c2, c3, c4, c5, c6, c7, c8⟩, f0, f1, f2, f3, f4, f5, f6, f7, f8⟩ := tok_cells hB)
          | (go_at_call 31; refine (cc _ ?hq).mono ?_; (case hq => exact hm.ext (by go_grown)); rintro e w8 ⟨rfl, x8⟩; have z8 : Ext w w8 := Ext.trans (by go_grown) x8; have hB8 := block_on x8 (tok_set _ _ _ _ _ _ _ _ _ hB))
          | (go_at_call 38; refine (cl _).mono ?_; rintro e w9 ⟨rfl, x9⟩; have z9 := z8.trans x9; have hB9 := block_on x9 hB8; obtain ⟨⟨c0, c1, c2, c3, c4, c5, c6, c7, c8⟩, f0, f1, f2, f3, f4, f5, f6, f7, f8⟩ := tok_cells hB9; obtain ⟨e0, e1, e2, e3, e4, e5, e6, e7, e8⟩ := tok_end hB9))
        refine bodyPost_ret (v := docV s i) (by rw [HV.out]; simp [results, Tryd.results14, go_sem, tokV, tokR, skipB, c0, c1, c2, c3, c4, c5, c6, c7, c8, e0, e1, e2, e3, e4, e5, e6, e7, e8]) rfl ⟨rfl, ?_⟩
        go_grown
end Go.Proofs.YtbolajljfkjfaaaDoor

