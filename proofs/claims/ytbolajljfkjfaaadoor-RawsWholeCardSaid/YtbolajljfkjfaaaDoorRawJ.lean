/-
  What is proved: plain laws: where scripts within escaped scripts end. No condition.
-/
import Derived.Test.YtbolajljfkjfaaaDoorRawL
namespace Go.Proofs.YtbolajljfkjfaaaDoor
open Go.RowKit

theorem idx_none (c : UInt8) : ∀ l : List UInt8, idxP [c] l = none → ∀ x ∈ l, x ≠ c
  | [], _, x, h => by simp at h
  | y :: l, h, x, hx => by
    obtain ⟨h1, h2⟩ := idxP_none_cons h
    rcases List.mem_cons.1 hx with rfl | hx
    · rintro rfl
      simp [List.isPrefixOf] at h1
    · exact idx_none c l h2 x hx
def scN : List UInt8 := [115, 99, 114, 105, 112, 116]
/-- The start of an escaped script. -/
theorem halt_open {x : List UInt8} (h1 : ∀ u, x ≠ 62 :: u) (h2 : ∀ u, x ≠ 45 :: 62 :: u) : haltP scN 0 (60 :: 33 :: 45 :: 45 :: x) = 4 + haltP scN 1 x := by
  have hw : wordB (endN scN) (60 :: 33 :: 45 :: 45 :: x) = false := by
    unfold wordB endN
    rw [stands_sign (by simp), stands_sign (by simp)]
    rfl
  have e1 : haltP scN 0 (60 :: 33 :: 45 :: 45 :: x) = haltP scN 1 (45 :: 45 :: x) + 2 := by
    conv => lhs; unfold haltP
    rw [if_neg (by rw [hw]; simp), if_pos ⟨rfl, rfl⟩]
  have n1 : shutC.isPrefixOf (45 :: 45 :: x) = false := by
    cases ho : shutC.isPrefixOf (45 :: 45 :: x) with
    | false => rfl
    | true =>
      obtain ⟨_, u, hu⟩ := shut_head ho
      simp only [List.cons.injEq, true_and] at hu
      exact absurd hu (h1 u)
  have n2 : shutC.isPrefixOf (45 :: x) = false := by
    cases ho : shutC.isPrefixOf (45 :: x) with
    | false => rfl
    | true =>
      obtain ⟨_, u, hu⟩ := shut_head ho
      exact absurd hu (h2 u)
  rw [e1, halt_quiet scN (by decide) (fun _ => n1), halt_quiet scN (by decide) (fun _ => n2)]
  omega
/-- What a round at a sign says, by what stands there. -/
theorem halt_word {d : Nat} {m x : List UInt8} {c : UInt8} (hd : d ≠ 2) (h : lowL m = lowL (endN scN)) (hc : tagEnd c = true) (hm : m ≠ []) : haltP scN d (m ++ c :: x) = 0 := by
  have hw := word_here (x := x) h hc
  cases m with
  | nil => exact absurd rfl hm
  | cons a m =>
    rw [List.cons_append] at hw ⊢
    unfold haltP
    rw [if_pos ⟨hd, hw⟩]
theorem halt_shut {d : Nat} {x : List UInt8} (hd : d ≠ 0) : haltP scN d (45 :: 45 :: 62 :: x) = haltP scN 0 (45 :: 62 :: x) + 1 := by
  have hw : wordB (endN scN) (45 :: 45 :: 62 :: x) = false := word_sign (by decide) _ _
  conv => lhs; unfold haltP
  rw [if_neg (by rw [hw]; simp), if_neg (fun e => hd e.1), if_pos ⟨hd, rfl⟩]
theorem sc_inner {x : List UInt8} : haltP scN 1 ([60, 115, 99, 114, 105, 112, 116, 62] ++ x) = haltP scN 2 ([115, 99, 114, 105, 112, 116, 62] ++ x) + 1 := by
  have hw : wordB (endN scN) ([60, 115, 99, 114, 105, 112, 116, 62] ++ x) = false := by
    unfold wordB endN
    rw [show [60, 115, 99, 114, 105, 112, 116, 62] ++ x = 60 :: 115 :: ([99, 114, 105, 112, 116, 62] ++ x) from rfl, stands_sign (by simp), stands_sign (by simp)]
    rfl
  have ho : wordB scO ([60, 115, 99, 114, 105, 112, 116, 62] ++ x) = true := word_here (f := scO) (m := [60, 115, 99, 114, 105, 112, 116]) (c := 62) (x := x) rfl rfl
  rw [show [60, 115, 99, 114, 105, 112, 116, 62] ++ x = 60 :: ([115, 99, 114, 105, 112, 116, 62] ++ x) from rfl] at hw ho ⊢
  conv => lhs; unfold haltP
  rw [if_neg (by rw [hw]; simp), if_neg (by simp), if_neg (fun e => by cases (shut_head e.2).1), if_pos ⟨rfl, ho⟩]
theorem sc_other {x : List UInt8} : haltP scN 1 ([60, 115, 99, 114, 105, 112, 116, 115, 62] ++ x) = haltP scN 1 ([115, 99, 114, 105, 112, 116, 115, 62] ++ x) + 1 := by
  have hw : wordB (endN scN) ([60, 115, 99, 114, 105, 112, 116, 115, 62] ++ x) = false := by
    unfold wordB endN
    rw [show [60, 115, 99, 114, 105, 112, 116, 115, 62] ++ x = 60 :: 115 :: ([99, 114, 105, 112, 116, 115, 62] ++ x) from rfl, stands_sign (by simp), stands_sign (by simp)]
    rfl
  have ho : wordB scO ([60, 115, 99, 114, 105, 112, 116, 115, 62] ++ x) = false := by
    unfold wordB
    rw [show scO.length = 7 from rfl, show List.drop 7 ([60, 115, 99, 114, 105, 112, 116, 115, 62] ++ x) = 115 :: 62 :: x from rfl]
    show (_ && tagEnd 115) = false
    rw [show tagEnd 115 = false from by decide, Bool.and_false]
  rw [show [60, 115, 99, 114, 105, 112, 116, 115, 62] ++ x = 60 :: ([115, 99, 114, 105, 112, 116, 115, 62] ++ x) from rfl] at hw ho ⊢
  conv => lhs; unfold haltP
  rw [if_neg (by rw [hw]; simp), if_neg (by simp), if_neg (fun e => by cases (shut_head e.2).1), if_neg (by rw [ho]; simp), if_neg (by simp)]
theorem sc_end {x : List UInt8} : haltP scN 2 ([60, 47, 83, 67, 82, 73, 80, 84, 62] ++ x) = haltP scN 1 ([47, 83, 67, 82, 73, 80, 84, 62] ++ x) + 1 := by
  have ho : wordB scE ([60, 47, 83, 67, 82, 73, 80, 84, 62] ++ x) = true := word_here (f := scE) (m := [60, 47, 83, 67, 82, 73, 80, 84]) (c := 62) (x := x) (by decide) rfl
  rw [show [60, 47, 83, 67, 82, 73, 80, 84, 62] ++ x = 60 :: ([47, 83, 67, 82, 73, 80, 84, 62] ++ x) from rfl] at ho ⊢
  conv => lhs; unfold haltP
  rw [if_neg (by simp), if_neg (by simp), if_neg (fun e => by cases (shut_head e.2).1), if_neg (by simp), if_pos ⟨rfl, ho⟩]
/-- Texts without signs and dashes, the first one without > at its front. -/
structure Mild (a b : List UInt8) : Prop where
  ha : ∀ c ∈ a, c ≠ 60 ∧ c ≠ 45
  hb : ∀ c ∈ b, c ≠ 60 ∧ c ≠ 45
  h0 : ∀ u, a ≠ 62 :: u
theorem Mild.open {a b y : List UInt8} (h : Mild a b) (y1 : ∀ u, y ≠ 62 :: u) (y2 : ∀ u, y ≠ 45 :: 62 :: u) : haltP scN 0 (60 :: 33 :: 45 :: 45 :: (a ++ y)) = 4 + (a.length + haltP scN 1 y) := by
  rw [halt_open, halt_over scN 1 a y h.ha]
  · cases a with
    | nil => exact y1
    | cons c a => intro u e; exact h.h0 a (by simp only [List.cons_append, List.cons.injEq] at e; rw [e.1])
  · cases a with
    | nil => exact y2
    | cons c a => intro u e; simp only [List.cons_append, List.cons.injEq] at e; exact absurd e.1 (h.ha c (by simp)).2
theorem quietC {l : List UInt8} (h : l.all (fun c => c != 60 && c != 45) = true) : ∀ c ∈ l, c ≠ 60 ∧ c ≠ 45 := by
  intro c hc
  have := List.all_eq_true.1 h c hc
  simpa using this
theorem Mild.one {a b : List UInt8} (h : Mild a b) : haltP scN 0 (60 :: 33 :: 45 :: 45 :: (a ++ ([60, 115, 99, 114, 105, 112, 116, 62] ++ (b ++ ([60, 47, 83, 67, 82, 73, 80, 84, 62] ++ (a ++ [60, 47, 115, 99, 114, 105, 112, 116, 32, 62])))))) = 4 + (a.length + (8 + (b.length + (9 + a.length)))) := by
  rw [h.open (by intro u e; cases e) (by intro u e; cases e), sc_inner, halt_over scN 2 [115, 99, 114, 105, 112, 116, 62] _ (quietC (by decide)), halt_over scN 2 b _ h.hb, sc_end, halt_over scN 1 [47, 83, 67, 82, 73, 80, 84, 62] _ (quietC (by decide)), halt_over scN 1 a _ h.ha]
  have e : haltP scN 1 [60, 47, 115, 99, 114, 105, 112, 116, 32, 62] = 0 := halt_word (m := [60, 47, 115, 99, 114, 105, 112, 116]) (c := 32) (x := [62]) (by decide) rfl rfl (by decide)
  rw [e]
  simp only [List.length_cons, List.length_nil]
  omega
theorem Mild.two {a b : List UInt8} (h : Mild a b) : haltP scN 0 (60 :: 33 :: 45 :: 45 :: (a ++ ([45, 45, 62] ++ (b ++ ([60, 47, 115, 99, 114, 105, 112, 116, 62] ++ a))))) = 4 + (a.length + (3 + b.length)) := by
  rw [h.open (by intro u e; cases e) (by intro u e; cases e), show [45, 45, 62] ++ (b ++ ([60, 47, 115, 99, 114, 105, 112, 116, 62] ++ a)) = 45 :: 45 :: 62 :: (b ++ ([60, 47, 115, 99, 114, 105, 112, 116, 62] ++ a)) from rfl, halt_shut (by decide),
    show 45 :: 62 :: (b ++ ([60, 47, 115, 99, 114, 105, 112, 116, 62] ++ a)) = [45, 62] ++ (b ++ ([60, 47, 115, 99, 114, 105, 112, 116, 62] ++ a)) from rfl, halt0_over scN [45, 62] _ (by decide), halt0_over scN b _ (fun c hc => (h.hb c hc).1)]
  have e : haltP scN 0 ([60, 47, 115, 99, 114, 105, 112, 116, 62] ++ a) = 0 := halt_word (m := [60, 47, 115, 99, 114, 105, 112, 116]) (c := 62) (x := a) (by decide) rfl rfl (by decide)
  rw [e]
  simp only [List.length_cons, List.length_nil]
  omega
theorem Mild.three {a b : List UInt8} (h : Mild a b) : haltP scN 0 (60 :: 33 :: 45 :: 45 :: (a ++ ([60, 115, 99, 114, 105, 112, 116, 62] ++ (b ++ ([45, 45, 62] ++ (a ++ [60, 47, 115, 99, 114, 105, 112, 116, 47])))))) = 4 + (a.length + (8 + (b.length + (3 + a.length)))) := by
  rw [h.open (by intro u e; cases e) (by intro u e; cases e), sc_inner, halt_over scN 2 [115, 99, 114, 105, 112, 116, 62] _ (quietC (by decide)), halt_over scN 2 b _ h.hb, show [45, 45, 62] ++ (a ++ [60, 47, 115, 99, 114, 105, 112, 116, 47]) = 45 :: 45 :: 62 :: (a ++ [60, 47, 115, 99, 114, 105, 112, 116, 47]) from rfl, halt_shut (by decide),
    show 45 :: 62 :: (a ++ [60, 47, 115, 99, 114, 105, 112, 116, 47]) = [45, 62] ++ (a ++ [60, 47, 115, 99, 114, 105, 112, 116, 47]) from rfl, halt0_over scN [45, 62] _ (by decide), halt0_over scN a _ (fun c hc => (h.ha c hc).1)]
  have e : haltP scN 0 [60, 47, 115, 99, 114, 105, 112, 116, 47] = 0 := halt_word (m := [60, 47, 115, 99, 114, 105, 112, 116]) (c := 47) (x := []) (by decide) rfl rfl (by decide)
  rw [e]
  simp only [List.length_cons, List.length_nil]
  omega
theorem Mild.four {a b : List UInt8} (h : Mild a b) : haltP scN 0 (60 :: 33 :: 45 :: 45 :: (a ++ ([60, 115, 99, 114, 105, 112, 116, 115, 62] ++ (b ++ [60, 47, 115, 99, 114, 105, 112, 116, 62])))) = 4 + (a.length + (9 + b.length)) := by
  rw [h.open (by intro u e; cases e) (by intro u e; cases e), sc_other, halt_over scN 1 [115, 99, 114, 105, 112, 116, 115, 62] _ (quietC (by decide)), halt_over scN 1 b _ h.hb]
  have e : haltP scN 1 [60, 47, 115, 99, 114, 105, 112, 116, 62] = 0 := halt_word (m := [60, 47, 115, 99, 114, 105, 112, 116]) (c := 62) (x := []) (by decide) rfl rfl (by decide)
  rw [e]
  simp only [List.length_cons, List.length_nil]
  omega
/-- A script's text up to where it ends. -/
theorem raw_script {p q t : List UInt8} {m : Nat} (h : haltP scN 0 (p ++ q) = p.length) (ht : cleanL p = t) (hm : p.length = m) : rawP scN 3 (p ++ q) = some (t, m) := by
  unfold rawP
  rw [if_neg (by decide), if_neg (by decide), if_neg (by decide), if_pos rfl, h, List.take_left' rfl, ht, hm]
end Go.Proofs.YtbolajljfkjfaaaDoor
