/-
  What is proved: plain laws of what is cut and put together again, of letters whose cases are turned. No condition.
-/
import Derived.Test.YtghafpkkmeibgaaDoorAscP
namespace Go.Proofs.YtghafpkkmeibgaaDoor
open Go.RowKit

/-! ### fields put together -/
def spcL : List UInt8 := [9, 10, 12, 13, 32]
def spcAt (k : Nat) : UInt8 := spcL.getD k 32
theorem spcAt_sp (k : Nat) : spB (spcAt k) = true := by
  unfold spcAt spcL
  match k with
  | 0 => rfl
  | 1 => rfl
  | 2 => rfl
  | 3 => rfl
  | 4 => rfl
  | k + 5 => rfl
def WordB (x : List UInt8) : Prop := x ≠ [] ∧ ∀ c ∈ x, spB c = false
theorem fieldsG_over : ∀ (a p t : List UInt8), (∀ c ∈ a, spB c = false) → fieldsG p (a ++ t) = fieldsG (p ++ a) t
  | [], p, t, _ => by simp
  | c :: a, p, t, h => by
    show (if spB c then _ else fieldsG (p ++ [c]) (a ++ t)) = _
    rw [if_neg (by rw [h c (by simp)]; decide), fieldsG_over a _ t (fun x hx => h x (by simp [hx]))]
    simp
theorem fieldsG_sp {c : UInt8} (h : spB c = true) (p t : List UInt8) : fieldsG p (c :: t) = pieceL p ++ fieldsG [] t := by
  show (if spB c then _ else _) = _
  rw [if_pos h]
theorem fields_words : ∀ (l p : List UInt8), (∀ c ∈ p, spB c = false) → ∀ x ∈ fieldsG p l, WordB x
  | [], p, hp, x, hx => by
    unfold fieldsG pieceL at hx
    split at hx
    · cases hx
    · rename_i h0
      simp only [List.mem_singleton] at hx
      subst hx
      exact ⟨by simpa using h0, hp⟩
  | c :: t, p, hp, x, hx => by
    unfold fieldsG at hx
    split at hx
    · rcases List.mem_append.1 hx with hx | hx
      · unfold pieceL at hx
        split at hx
        · cases hx
        · rename_i h0
          simp only [List.mem_singleton] at hx
          subst hx
          exact ⟨by simpa using h0, hp⟩
      · exact fields_words t [] (by simp) x hx
    · rename_i hc
      refine fields_words t (p ++ [c]) (fun d hd => ?_) x hx
      rcases List.mem_append.1 hd with hd | hd
      · exact hp d hd
      · simp only [List.mem_singleton] at hd
        subst hd
        simpa using hc
/-- A text that has these fields, and is closed. -/
def ClosedF (t : List UInt8) (l : List (List UInt8)) : Prop := ∀ r, fieldsG [] (t ++ r) = l ++ fieldsG [] r
theorem ClosedF.nil : ClosedF [] [] := fun _ => rfl
theorem ClosedF.more {t : List UInt8} {l : List (List UInt8)} (h : ClosedF t l) {w : List UInt8} (hw : WordB w) {a b : UInt8} (ha : spB a = true) (hb : spB b = true) : ClosedF (t ++ [a] ++ w ++ [b]) (l ++ [w]) := by
  intro r
  have e : t ++ [a] ++ w ++ [b] ++ r = t ++ (a :: (w ++ b :: r)) := by simp
  have e2 : pieceL w = [w] := by
    unfold pieceL
    rw [if_neg]
    simpa using hw.1
  rw [e, h, fieldsG_sp ha, fieldsG_over w [] _ hw.2, List.nil_append, fieldsG_sp hb, e2]
  simp [pieceL]
theorem ClosedF.eq {t : List UInt8} {l : List (List UInt8)} (h : ClosedF t l) : fieldsL t = l := by
  have := h []
  rw [List.append_nil] at this
  show fieldsG [] t = l
  rw [this]
  show l ++ pieceL [] = l
  simp [pieceL]
theorem fieldsG_last {c : UInt8} (hc : spB c = true) : ∀ (l p : List UInt8), fieldsG p (l ++ [c]) = fieldsG p l
  | [], p => by
    show fieldsG p [c] = pieceL p
    rw [fieldsG_sp hc]
    show pieceL p ++ pieceL [] = pieceL p
    simp [pieceL]
  | d :: l, p => by
    show (if spB d then pieceL p ++ fieldsG [] (l ++ [c]) else fieldsG (p ++ [d]) (l ++ [c])) = (if spB d then pieceL p ++ fieldsG [] l else fieldsG (p ++ [d]) l)
    rw [fieldsG_last hc l [], fieldsG_last hc l (p ++ [d])]
theorem stripR_ends (l : List UInt8) : ∃ b, l = stripR l ++ b ∧ b.all spB = true := by
  induction l with
  | nil => exact ⟨[], rfl, rfl⟩
  | cons c t ih =>
    obtain ⟨b, hb, hs⟩ := ih
    by_cases ht : stripR t = []
    · by_cases hc : spB c = true
      · refine ⟨c :: t, by simp [stripR, ht, hc], ?_⟩
        have := (stripR_nil_iff t).1 ht
        simp [hc, this]
      · refine ⟨t, by simp [stripR, ht, hc], (stripR_nil_iff t).1 ht⟩
    · refine ⟨b, ?_, hs⟩
      have : stripR (c :: t) = c :: stripR t := by
        show (if stripR t = [] then _ else _) = _
        rw [if_neg ht]
      rw [this, List.cons_append, ← hb]
theorem fieldsG_tail : ∀ (b l p : List UInt8), b.all spB = true → fieldsG p (l ++ b) = fieldsG p l
  | [], l, p, _ => by simp
  | c :: b, l, p, h => by
    simp only [List.all_cons, Bool.and_eq_true] at h
    have e : l ++ c :: b = (l ++ [c]) ++ b := by simp
    rw [e, fieldsG_tail b _ p h.2, fieldsG_last h.1]
theorem fields_stripR (l : List UInt8) : fieldsL (stripR l) = fieldsL l := by
  obtain ⟨b, hb, hs⟩ := stripR_ends l
  have := fieldsG_tail b (stripR l) [] hs
  rw [← hb] at this
  exact this.symm
theorem fields_stripF : ∀ l : List UInt8, fieldsL (stripF l) = fieldsL l
  | [] => rfl
  | c :: t => by
    unfold stripF
    rw [List.dropWhile_cons]
    cases hc : spB c
    · rfl
    · have ih := fields_stripF t
      unfold stripF at ih
      simp only [if_true]
      rw [ih]
      show _ = fieldsG [] (c :: t)
      rw [fieldsG_sp hc]
      simp [pieceL, fieldsL]
theorem fields_strip (l : List UInt8) : fieldsL (stripL l) = fieldsL l := by
  unfold stripL
  rw [fields_stripR, fields_stripF]

/-! ### what stands between commas put together -/
theorem stripR_id (l : List UInt8) : stripR (stripR l) = stripR l := by
  induction l with
  | nil => rfl
  | cons c t ih =>
    by_cases ht : stripR t = []
    · by_cases hc : spB c = true
      · simp [stripR, ht, hc]
      · simp [stripR, ht, hc]
    · have : stripR (c :: t) = c :: stripR t := by
        show (if stripR t = [] then _ else _) = _
        rw [if_neg ht]
      rw [this]
      show (if stripR (stripR t) = [] then _ else c :: stripR (stripR t)) = _
      rw [ih, if_neg ht]
theorem stripF_id (l : List UInt8) : stripF (stripF l) = stripF l := by
  induction l with
  | nil => rfl
  | cons c t ih =>
    unfold stripF at ih ⊢
    rw [List.dropWhile_cons]
    cases hc : spB c
    · simp [List.dropWhile_cons, hc]
    · simpa using ih
theorem strip_id (l : List UInt8) : stripL (stripL l) = stripL l := by
  have h1 : stripF (stripR (stripF l)) = stripR (stripF (stripF l)) := strip_swap (stripF l)
  unfold stripL
  rw [h1, stripF_id, stripR_id]
theorem stripR_all {b : List UInt8} (h : b.all spB = true) : ∀ l : List UInt8, stripR (l ++ b) = stripR l := by
  intro l
  induction l with
  | nil => exact (stripR_nil_iff b).2 h
  | cons c t ih =>
    show (if stripR (t ++ b) = [] then (if spB c then [] else [c]) else c :: stripR (t ++ b)) = (if stripR t = [] then (if spB c then [] else [c]) else c :: stripR t)
    rw [ih]
theorem strip_pad {a b : UInt8} (ha : spB a = true) (hb : spB b = true) (x : List UInt8) : stripL ([a] ++ x ++ [b]) = stripL x := by
  have h1 : stripF ([a] ++ x ++ [b]) = stripF (x ++ [b]) := by
    show (a :: (x ++ [b])).dropWhile spB = _
    rw [List.dropWhile_cons, if_pos ha]
    rfl
  unfold stripL
  rw [h1, ← strip_swap, ← strip_swap, stripR_all (by simp [hb])]
theorem strip_one {a : UInt8} (ha : spB a = true) : stripL [a] = [] := by
  unfold stripL stripF
  rw [List.dropWhile_cons, if_pos ha]
  rfl
theorem stripR_mem {c : UInt8} : ∀ l : List UInt8, c ∈ stripR l → c ∈ l := by
  intro l h
  obtain ⟨b, hb, _⟩ := stripR_ends l
  rw [hb]
  exact List.mem_append_left _ h
theorem strip_mem {c : UInt8} {l : List UInt8} (h : c ∈ stripL l) : c ∈ l := (List.dropWhile_sublist spB).subset (stripR_mem _ h)
structure CommaW (x : List UInt8) : Prop where
  ne : x ≠ []
  strip : stripL x = x
  no : (44 : UInt8) ∉ x
theorem splitG_none {c : UInt8} : ∀ (l p : List UInt8), c ∉ p → ∀ x ∈ splitG c p l, c ∉ x
  | [], p, hp, x, hx => by
    simp only [splitG, List.mem_singleton] at hx
    subst hx
    exact hp
  | d :: t, p, hp, x, hx => by
    unfold splitG at hx
    split at hx
    · rcases List.mem_cons.1 hx with hx | hx
      · subst hx
        exact hp
      · exact splitG_none t [] (by simp) x hx
    · rename_i hd
      refine splitG_none t (p ++ [d]) (fun h => ?_) x hx
      rcases List.mem_append.1 h with h | h
      · exact hp h
      · simp only [List.mem_singleton] at h
        exact hd h.symm
theorem commas_words (s : List UInt8) : ∀ x ∈ commasL s, CommaW x := by
  refine commas_fold_each CommaW _ _ (fun y hy hne => ⟨hne, strip_id y, fun h => splitG_none s [] (by simp) y hy (strip_mem h)⟩) (by simp)
def ClosedC (t : List UInt8) (l : List (List UInt8)) : Prop := ∀ r out, (splitG 44 [] (t ++ r)).foldl commaStep out = (splitG 44 [] r).foldl commaStep (out ++ l)
theorem ClosedC.nil : ClosedC [] [] := fun _ _ => by simp
theorem sp_not44 {a : UInt8} (h : spB a = true) : a ≠ 44 := by
  intro e
  subst e
  exact absurd h (by decide)
theorem ClosedC.more {t : List UInt8} {l : List (List UInt8)} (h : ClosedC t l) {w : List UInt8} (hw : CommaW w) {a b : UInt8} (ha : spB a = true) (hb : spB b = true) : ClosedC (t ++ [a] ++ w ++ [b] ++ [44] ++ [a] ++ [44]) (l ++ [w]) := by
  intro r out
  have e : t ++ [a] ++ w ++ [b] ++ [44] ++ [a] ++ [44] ++ r = t ++ (([a] ++ w ++ [b]) ++ 44 :: ([a] ++ 44 :: r)) := by simp
  have n1 : (44 : UInt8) ∉ [a] ++ w ++ [b] := by
    intro hm
    simp only [List.mem_append, List.mem_singleton] at hm
    rcases hm with (hm | hm) | hm
    · exact sp_not44 ha hm.symm
    · exact hw.no hm
    · exact sp_not44 hb hm.symm
  have n2 : (44 : UInt8) ∉ [a] := by
    intro hm
    simp only [List.mem_singleton] at hm
    exact sp_not44 ha hm.symm
  rw [e, h, splitG_hit _ _ [] n1, List.nil_append, List.foldl_cons, splitG_hit _ _ [] n2, List.nil_append, List.foldl_cons]
  have s1 : commaStep (out ++ l) ([a] ++ w ++ [b]) = out ++ l ++ [w] := by
    unfold commaStep
    rw [strip_pad ha hb, hw.strip, if_neg hw.ne]
  have s2 : commaStep (out ++ l ++ [w]) [a] = out ++ l ++ [w] := by
    unfold commaStep
    rw [strip_one ha, if_pos rfl]
  rw [s1, s2, List.append_assoc]
theorem ClosedC.eq {t : List UInt8} {l : List (List UInt8)} (h : ClosedC t l) : commasL t = l := by
  have := h [] []
  rw [List.append_nil, List.nil_append] at this
  show (splitG 44 [] t).foldl commaStep [] = l
  rw [this]
  show commaStep l [] = l
  rfl

/-! ### cases turned -/
def letterB (c : UInt8) : Bool := (65 ≤ c && c ≤ 90) || (97 ≤ c && c ≤ 122)
def turnB (t : Bool) (c : UInt8) : UInt8 := if t && letterB c then c ^^^ 32 else c
def turnL : List UInt8 → List Bool → List UInt8
  | [], _ => []
  | l, [] => l
  | c :: l, t :: ts => turnB t c :: turnL l ts
theorem low_turn (t : Bool) (c : UInt8) : lowB (turnB t c) = lowB c := by
  have key : ∀ t : Bool, ∀ n : Fin 256, lowB (turnB t (UInt8.ofNat n)) = lowB (UInt8.ofNat n) := by decide +kernel
  have := key t ⟨c.toNat, c.toNat_lt⟩
  simpa only [UInt8.ofNat_toNat] using this
theorem lowL_turn : ∀ (l : List UInt8) (ts : List Bool), lowL (turnL l ts) = lowL l
  | [], _ => rfl
  | _ :: _, [] => rfl
  | c :: l, t :: ts => by
    show lowB (turnB t c) :: lowL (turnL l ts) = lowB c :: lowL l
    rw [low_turn, lowL_turn l ts]
theorem lowB_two (c : UInt8) : lowB (lowB c) = lowB c := by
  have key : ∀ n : Fin 256, lowB (lowB (UInt8.ofNat n)) = lowB (UInt8.ofNat n) := by decide +kernel
  have := key ⟨c.toNat, c.toNat_lt⟩
  simpa only [UInt8.ofNat_toNat] using this
theorem lowL_two (l : List UInt8) : lowL (lowL l) = lowL l := by
  unfold lowL
  rw [List.map_map]
  exact List.map_congr_left fun c _ => lowB_two c
theorem low_of (c : UInt8) : c = lowB c ∨ (c = lowB c ^^^ 32 ∧ letterB c = true ∧ letterB (lowB c) = true) := by
  have key : ∀ n : Fin 256, UInt8.ofNat n = lowB (UInt8.ofNat n) ∨ (UInt8.ofNat n = lowB (UInt8.ofNat n) ^^^ 32 ∧ letterB (UInt8.ofNat n) = true ∧ letterB (lowB (UInt8.ofNat n)) = true) := by decide +kernel
  have := key ⟨c.toNat, c.toNat_lt⟩
  simpa only [UInt8.ofNat_toNat] using this
theorem xor_back (c b : UInt8) : c ^^^ (c ^^^ b) = b := by rw [← UInt8.xor_assoc, UInt8.xor_self, UInt8.zero_xor]
theorem low_by (c b : UInt8) : (lowB (c ^^^ b) == lowB c) = (b == 0 || (b == 32 && letterB c)) := by
  rw [Bool.eq_iff_iff]
  simp only [beq_iff_eq, Bool.or_eq_true, Bool.and_eq_true]
  constructor
  · intro h
    have hb := xor_back c b
    have h1 := low_of c
    have h2 := low_of (c ^^^ b)
    rw [h] at h2
    rcases h2 with h2 | ⟨h2, h3, h4⟩
    · rcases h1 with h1 | ⟨h1, h5, h6⟩
      · left
        rw [← h1] at h2
        rw [h2, UInt8.xor_self] at hb
        exact hb.symm
      · right
        refine ⟨?_, h5⟩
        rw [h2] at hb
        rw [← hb]
        conv => lhs; lhs; rw [h1]
        rw [UInt8.xor_assoc, UInt8.xor_comm 32, ← UInt8.xor_assoc, UInt8.xor_self, UInt8.zero_xor]
    · rcases h1 with h1 | ⟨h1, h5, h6⟩
      · right
        rw [← h1] at h2 h4
        refine ⟨?_, h4⟩
        rw [h2, xor_back] at hb
        exact hb.symm
      · left
        rw [← h1] at h2
        rw [h2, UInt8.xor_self] at hb
        exact hb.symm
  · rintro (rfl | ⟨rfl, h⟩)
    · rw [UInt8.xor_zero]
    · have := low_turn true c
      unfold turnB at this
      rwa [h] at this
theorem lowL_set (l : List UInt8) (k : Nat) (c : UInt8) : lowL (l.set k c) = (lowL l).set k (lowB c) := by
  unfold lowL
  rw [List.map_set]
theorem same_by {l : List UInt8} {k : Nat} (hk : k < l.length) (b : UInt8) : (lowL l == lowL (l.set k (l[k] ^^^ b))) = (b == 0 || (b == 32 && letterB l[k])) := by
  rw [← low_by, lowL_set, Bool.eq_iff_iff]
  simp only [beq_iff_eq]
  have hk2 : k < (lowL l).length := by simpa [lowL] using hk
  have e : (lowL l)[k] = lowB l[k] := by simp [lowL]
  constructor
  · intro h
    have h2 := congrArg (·[k]?) h
    simp only [List.getElem?_set_self hk2, List.getElem?_eq_getElem hk2, Option.some.injEq] at h2
    rw [← h2, e]
  · intro h
    rw [h, ← e, List.set_getElem_self]
end Go.Proofs.YtghafpkkmeibgaaDoor
