/-
  What is proved: plain laws of lists of names, as texts with blanks between and as lists. No condition.
-/
import Derived.Test.YtlbagmmkeekfjaaDoorBase
import Derived.Lib.IndexMore
namespace Go.Proofs.YtlbagmmkeekfjaaDoor
open Go.RowKit

/-- Names as one text, a blank behind each. -/
def body : List (List UInt8) → List UInt8
  | [] => []
  | w :: ws => w ++ 32 :: body ws
/-- Names as one text, a blank around each. -/
def joined (ws : List (List UInt8)) : List UInt8 := 32 :: body ws
/-- No blank in it. -/
def solid (w : List UInt8) : Bool := !w.contains 32
theorem contains_nil (sub : List UInt8) : Lib.contains [] sub = sub.isEmpty := by
  unfold Lib.contains Lib.index
  cases sub <;> rfl
theorem contains_cons (b : UInt8) (l sub : List UInt8) : Lib.contains (b :: l) sub = (sub.isPrefixOf (b :: l) || Lib.contains l sub) := by
  unfold Lib.contains
  have hg := Lib.index_ge l sub
  rw [Lib.index]
  by_cases h1 : sub.isPrefixOf (b :: l) = true
  · simp [h1]
  · have h1' : sub.isPrefixOf (b :: l) = false := Bool.eq_false_iff.2 h1
    rw [h1']
    by_cases h2 : Lib.index l sub = -1
    · simp [h2]
    · simp only [h2, beq_iff_eq, if_false, Bool.false_or, Bool.false_eq_true]
      by_cases h3 : 0 ≤ Lib.index l sub
      · simp only [h3, decide_true, decide_eq_true_eq]; omega
      · omega
theorem prefix_word : ∀ (n w r : List UInt8), solid n = true → solid w = true → (n ++ [32]).isPrefixOf (w ++ 32 :: r) = decide (n = w)
  | [], [], r, _, _ => by simp [List.isPrefixOf]
  | [], b :: w, r, _, hw => by
    have hb : (32 : UInt8) ≠ b := by intro e; subst e; simp [solid] at hw
    have : ((32 : UInt8) == b) = false := by simpa using hb
    simp [List.isPrefixOf, this]
  | a :: n, [], r, hn, _ => by
    have ha : a ≠ 32 := by intro e; subst e; simp [solid] at hn
    have : (a == (32 : UInt8)) = false := by simpa using ha
    simp [List.isPrefixOf, this]
  | a :: n, b :: w, r, hn, hw => by
    have hn' : solid n = true := by simp only [solid, List.contains_cons, Bool.not_or, Bool.and_eq_true] at hn ⊢; exact hn.2
    have hw' : solid w = true := by simp only [solid, List.contains_cons, Bool.not_or, Bool.and_eq_true] at hw ⊢; exact hw.2
    have ih := prefix_word n w r hn' hw'
    simp only [List.cons_append, List.isPrefixOf, ih]
    by_cases h : a = b
    · subst h; simp
    · have : (a == b) = false := by simpa using h
      simp [this, h]
theorem contains_skip (t : List UInt8) : ∀ (w r : List UInt8), solid w = true → Lib.contains (w ++ r) (32 :: t) = Lib.contains r (32 :: t)
  | [], _, _ => rfl
  | b :: w, r, hw => by
    have hb : (32 : UInt8) ≠ b := by intro e; subst e; simp [solid] at hw
    have hw' : solid w = true := by simp only [solid, List.contains_cons, Bool.not_or, Bool.and_eq_true] at hw ⊢; exact hw.2
    have : ((32 : UInt8) == b) = false := by simpa using hb
    rw [List.cons_append, contains_cons, contains_skip t w r hw']
    simp [List.isPrefixOf, this]
theorem contains_joined (n : List UInt8) (hn : solid n = true) (h0 : n ≠ []) : ∀ ws : List (List UInt8), ws.all solid = true → Lib.contains (joined ws) (32 :: (n ++ [32])) = decide (n ∈ ws)
  | [], _ => by
    unfold joined body
    rw [contains_cons, contains_nil]
    cases n with
    | nil => exact absurd rfl h0
    | cons a n => simp [List.isPrefixOf]
  | w :: ws, hw => by
    simp only [List.all_cons, Bool.and_eq_true] at hw
    have ih := contains_joined n hn h0 ws hw.2
    unfold joined at ih ⊢
    unfold body
    rw [contains_cons, contains_skip _ w _ hw.1, ih]
    simp only [List.isPrefixOf, beq_self_eq_true, Bool.true_and, prefix_word n w _ hn hw.1]
    simp
theorem contains_blank : ∀ l : List UInt8, Lib.contains l [32] = l.contains 32
  | [] => rfl
  | b :: l => by
    rw [contains_cons, contains_blank l, List.contains_cons]
    simp [List.isPrefixOf]
/-- What the program's 'in' says. -/
def inB (list n : List UInt8) : Bool := !n.isEmpty && (!n.contains 32 && Lib.contains list (32 :: (n ++ [32])))
theorem inB_joined (ws : List (List UInt8)) (hw : ws.all (fun w => solid w && !w.isEmpty) = true) (n : List UInt8) : inB (joined ws) n = decide (n ∈ ws) := by
  have hs : ws.all solid = true := by
    rw [List.all_eq_true] at hw ⊢
    intro w h
    have := hw w h
    simp only [Bool.and_eq_true] at this
    exact this.1
  unfold inB
  by_cases h0 : n = []
  · subst h0
    have : ¬ ([] : List UInt8) ∈ ws := fun h => by
      have := List.all_eq_true.1 hw _ h
      simp at this
    simp [this]
  · have h0' : n.isEmpty = false := by simpa using h0
    rw [h0']
    cases h1 : n.contains 32
    · rw [contains_joined n (by unfold solid; rw [h1]; rfl) h0 ws hs]
      rfl
    · have : ¬ n ∈ ws := fun h => by
        have := List.all_eq_true.1 hs _ h
        unfold solid at this
        rw [h1] at this
        cases this
      simp [this]

def specialW : List (List UInt8) := [[97, 100, 100, 114, 101, 115, 115], [97, 112, 112, 108, 101, 116], [97, 114, 101, 97], [97, 114, 116, 105, 99, 108, 101], [97, 115, 105, 100, 101], [98, 97, 115, 101], [98, 97, 115, 101, 102, 111, 110, 116], [98, 103, 115, 111, 117, 110, 100], [98, 108, 111, 99, 107, 113, 117, 111, 116, 101], [98, 111, 100, 121], [98, 114], [98, 117, 116, 116, 111, 110], [99, 97, 112, 116, 105, 111, 110], [99, 101, 110, 116, 101, 114], [99, 111, 108], [99, 111, 108, 103, 114, 111, 117, 112], [100, 100], [100, 101, 116, 97, 105, 108, 115], [100, 105, 114], [100, 105, 118], [100, 108], [100, 116], [101, 109, 98, 101, 100], [102, 105, 101, 108, 100, 115, 101, 116], [102, 105, 103, 99, 97, 112, 116, 105, 111, 110], [102, 105, 103, 117, 114, 101], [102, 111, 111, 116, 101, 114], [102, 111, 114, 109], [102, 114, 97, 109, 101], [102, 114, 97, 109, 101, 115, 101, 116], [104, 49], [104, 50], [104, 51], [104, 52], [104, 53], [104, 54], [104, 101, 97, 100], [104, 101, 97, 100, 101, 114], [104, 103, 114, 111, 117, 112], [104, 114], [104, 116, 109, 108], [105, 102, 114, 97, 109, 101], [105, 109, 103], [105, 110, 112, 117, 116], [107, 101, 121, 103, 101, 110], [108, 105], [108, 105, 110, 107], [108, 105, 115, 116, 105, 110, 103], [109, 97, 105, 110], [109, 97, 114, 113, 117, 101, 101], [109, 101, 110, 117], [109, 101, 116, 97], [110, 97, 118], [110, 111, 101, 109, 98, 101, 100], [110, 111, 102, 114, 97, 109, 101, 115], [110, 111, 115, 99, 114, 105, 112, 116], [111, 98, 106, 101, 99, 116], [111, 108], [112], [112, 97, 114, 97, 109], [112, 108, 97, 105, 110, 116, 101, 120, 116], [112, 114, 101], [115, 99, 114, 105, 112, 116], [115, 101, 97, 114, 99, 104], [115, 101, 99, 116, 105, 111, 110], [115, 101, 108, 101, 99, 116], [115, 111, 117, 114, 99, 101], [115, 116, 121, 108, 101], [115, 117, 109, 109, 97, 114, 121], [116, 97, 98, 108, 101], [116, 98, 111, 100, 121], [116, 100], [116, 101, 109, 112, 108, 97, 116, 101], [116, 101, 120, 116, 97, 114, 101, 97], [116, 102, 111, 111, 116], [116, 104], [116, 104, 101, 97, 100], [116, 105, 116, 108, 101], [116, 114], [116, 114, 97, 99, 107], [117, 108], [119, 98, 114], [120, 109, 112]]
def mathW : List (List UInt8) := [[97, 110, 110, 111, 116, 97, 116, 105, 111, 110, 45, 120, 109, 108], [109, 105], [109, 110], [109, 111], [109, 115], [109, 116, 101, 120, 116]]
def svgW : List (List UInt8) := [[100, 101, 115, 99], [102, 111, 114, 101, 105, 103, 110, 111, 98, 106, 101, 99, 116], [116, 105, 116, 108, 101]]
def formattingW : List (List UInt8) := [[97], [98], [98, 105, 103], [99, 111, 100, 101], [101, 109], [102, 111, 110, 116], [105], [110, 111, 98, 114], [115], [115, 109, 97, 108, 108], [115, 116, 114, 105, 107, 101], [115, 116, 114, 111, 110, 103], [116, 116], [117]]
def voidW : List (List UInt8) := [[97, 114, 101, 97], [98, 97, 115, 101], [98, 97, 115, 101, 102, 111, 110, 116], [98, 103, 115, 111, 117, 110, 100], [98, 114], [99, 111, 108], [101, 109, 98, 101, 100], [102, 114, 97, 109, 101], [104, 114], [105, 109, 103], [105, 110, 112, 117, 116], [107, 101, 121, 103, 101, 110], [108, 105, 110, 107], [109, 101, 116, 97], [112, 97, 114, 97, 109], [115, 111, 117, 114, 99, 101], [116, 114, 97, 99, 107], [119, 98, 114]]
def impliedW : List (List UInt8) := [[100, 100], [100, 116], [108, 105], [111, 112, 116, 103, 114, 111, 117, 112], [111, 112, 116, 105, 111, 110], [112], [114, 98], [114, 112], [114, 116], [114, 116, 99]]
def thoroughW : List (List UInt8) := [[99, 97, 112, 116, 105, 111, 110], [99, 111, 108, 103, 114, 111, 117, 112], [116, 98, 111, 100, 121], [116, 100], [116, 102, 111, 111, 116], [116, 104], [116, 104, 101, 97, 100], [116, 114]]
def headingsW : List (List UInt8) := [[104, 49], [104, 50], [104, 51], [104, 52], [104, 53], [104, 54]]
def normalW : List (List UInt8) := [[97, 112, 112, 108, 101, 116], [99, 97, 112, 116, 105, 111, 110], [104, 116, 109, 108], [109, 97, 114, 113, 117, 101, 101], [111, 98, 106, 101, 99, 116], [116, 97, 98, 108, 101], [116, 100], [116, 101, 109, 112, 108, 97, 116, 101], [116, 104]]
def tablesW : List (List UInt8) := [[104, 116, 109, 108], [116, 97, 98, 108, 101], [116, 101, 109, 112, 108, 97, 116, 101]]
def listW : List (List UInt8) := normalW ++ [[111, 108], [117, 108]]
def buttonW : List (List UInt8) := normalW ++ [[98, 117, 116, 116, 111, 110]]
def scopeW (which : Int) : List (List UInt8) := if which = 0 then normalW else if which = 1 then listW else if which = 2 then buttonW else tablesW
end Go.Proofs.YtlbagmmkeekfjaaDoor
