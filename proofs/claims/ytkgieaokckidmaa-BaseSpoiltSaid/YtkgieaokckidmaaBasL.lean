/-
  What is proved: plain laws of bytes in 64 letters: those that the statements ask. No condition.
-/
import Derived.Test.YtkgieaokckidmaaBasQ
namespace Go.Proofs.Ytkgieaokckidmaa
open Go.RowKit

theorem letN_not : ∀ n, n < 64 → letN n ≠ 61 ∧ letN n ≠ 45 ∧ letN n ≠ 95 := by
  have key : ∀ n : Fin 64, letN n.val ≠ 61 ∧ letN n.val ≠ 45 ∧ letN n.val ≠ 95 := by decide
  exact fun n h => key ⟨n, h⟩
set_option maxRecDepth 100000 in
theorem pln_facts (c : UInt8) : worB (plnB c) = worB c ∧ (plnB c = 61 ↔ c = 61) := by
  have key : ∀ k : Fin 256, worB (plnB (UInt8.ofNat k.val)) = worB (UInt8.ofNat k.val) ∧ (plnB (UInt8.ofNat k.val) = 61 ↔ UInt8.ofNat k.val = 61) := by decide +kernel
  have := key ⟨c.toNat, c.toNat_lt⟩
  simpa only [UInt8.ofNat_toNat] using this
theorem wor_eq : worB 61 = none := by decide
/-- A byte is a letter. -/
def isLet (c : UInt8) : Bool := (97 ≤ c && c ≤ 122) || (65 ≤ c && c ≤ 90) || (48 ≤ c && c ≤ 57) || c == 43 || c == 47 || c == 45 || c == 95
set_option maxRecDepth 100000 in
theorem isLet_wor (c : UInt8) : isLet c = (worB c).isSome := by
  have key : ∀ k : Fin 256, isLet (UInt8.ofNat k.val) = (worB (UInt8.ofNat k.val)).isSome := by decide +kernel
  have := key ⟨c.toNat, c.toNat_lt⟩
  simpa only [UInt8.ofNat_toNat] using this
def plnL (s : List UInt8) : List UInt8 := s.map plnB
/-- All = at the end taken away. -/
def strQ (s : List UInt8) : List UInt8 := (s.reverse.dropWhile (· == 61)).reverse
theorem strQ_snoc (s : List UInt8) : strQ (s ++ [61]) = strQ s := by simp [strQ]
theorem strQ_else (s : List UInt8) {c : UInt8} (h : c ≠ 61) : strQ (s ++ [c]) = s ++ [c] := by
  simp [strQ, List.dropWhile_cons, h]
theorem strQ_nil : strQ [] = [] := rfl
theorem strQ_none {s : List UInt8} (h : 61 ∉ s) : strQ s = s := by
  rcases List.eq_nil_or_concat s with rfl | ⟨t, c, rfl⟩
  · rfl
  · rw [List.concat_eq_append] at h ⊢
    exact strQ_else t (fun e => h (by simp [e]))
theorem strQ_pad (s : List UInt8) : ∀ n, strQ (s ++ List.replicate n 61) = strQ s
  | 0 => by simp
  | n + 1 => by
    rw [List.replicate_succ', ← List.append_assoc, strQ_snoc, strQ_pad s n]
theorem trimQ_snoc (s : List UInt8) : trimQ (s ++ [61]) = s := by simp [trimQ]
theorem trimQ_else {s : List UInt8} (h : s.getLast? ≠ some 61) : trimQ s = s := by unfold trimQ; rw [if_neg h]
theorem last_not {s : List UInt8} (h : 61 ∉ s) : s.getLast? ≠ some 61 := fun e => h (List.mem_of_getLast? e)
theorem bareB_split (s : List UInt8) : ∃ n, s = bareB s ++ List.replicate n 61 := by
  have one : ∀ s : List UInt8, ∃ n, s = trimQ s ++ List.replicate n 61 := by
    intro s
    rcases List.eq_nil_or_concat s with rfl | ⟨t, c, rfl⟩
    · exact ⟨0, rfl⟩
    · by_cases h : c = 61
      · subst h; exact ⟨1, by rw [List.concat_eq_append, trimQ_snoc]; rfl⟩
      · exact ⟨0, by rw [trimQ_else (by simpa using h)]; simp⟩
  unfold bareB
  split
  · obtain ⟨n, hn⟩ := one s
    obtain ⟨m, hm⟩ := one (trimQ s)
    refine ⟨m + n, ?_⟩
    rw [← List.replicate_append_replicate, ← List.append_assoc, ← hm, ← hn]
  · exact ⟨0, by simp⟩
theorem bareB_none {s : List UInt8} (h : s.getLast? ≠ some 61) : bareB s = s := by
  unfold bareB; rw [trimQ_else h, trimQ_else h, ite_self]
theorem trimQ_map (s : List UInt8) : trimQ (plnL s) = plnL (trimQ s) := by
  rcases List.eq_nil_or_concat s with rfl | ⟨t, c, rfl⟩
  · rfl
  · have h := (pln_facts c).2
    rw [List.concat_eq_append]
    by_cases hc : c = 61
    · subst hc
      rw [trimQ_snoc]
      have e : plnL (t ++ [61]) = plnL t ++ [61] := by simp [plnL]; decide
      rw [e, trimQ_snoc]
    · rw [trimQ_else (s := t ++ [c]) (by simpa using hc), trimQ_else]
      simp [plnL, h, hc]
theorem plnL_len (s : List UInt8) : (plnL s).length = s.length := by simp [plnL]
theorem bareB_map (s : List UInt8) : bareB (plnL s) = plnL (bareB s) := by
  unfold bareB
  rw [plnL_len, trimQ_map, trimQ_map]
  split <;> rfl
theorem valsL_pln : ∀ s : List UInt8, valsL (plnL s) = valsL s
  | [] => rfl
  | c :: t => by
    have e : plnL (c :: t) = plnB c :: plnL t := rfl
    rw [e]
    simp only [valsL, (pln_facts c).1, valsL_pln t]
/-- The usual letters have the same bytes. -/
theorem decL_pln (s : List UInt8) : decL (plnL s) = decL s := by
  unfold decL
  rw [bareB_map, plnL_len, valsL_pln]
/-- The letters of bytes, without what stands for nothing. -/
def bodyL (s : List UInt8) : List UInt8 := (encV s).map letN
theorem bodyL_mem (s : List UInt8) : ∀ c ∈ bodyL s, c ≠ 61 ∧ c ≠ 45 ∧ c ≠ 95 := by
  intro c hc
  obtain ⟨v, hv, rfl⟩ := List.mem_map.1 hc
  exact letN_not v (encV_lt s v hv)
theorem bodyL_not (s : List UInt8) : 61 ∉ bodyL s := fun h => (bodyL_mem s _ h).1 rfl
theorem bodyL_len (s : List UInt8) : (bodyL s).length = (s.length * 4 + 2) / 3 := by simp [bodyL, encV_len]
theorem encL_body (s : List UInt8) : encL s = bodyL s ++ padL s.length := rfl
theorem padL_rep (n : Nat) : ∃ k, padL n = List.replicate k 61 := by
  unfold padL
  split
  · exact ⟨2, rfl⟩
  · split
    · exact ⟨1, rfl⟩
    · exact ⟨0, rfl⟩
theorem encL_len (s : List UInt8) : (encL s).length = (s.length + 2) / 3 * 4 := by
  rw [encL_body, List.length_append, bodyL_len]
  unfold padL
  split
  · simp only [List.length_cons, List.length_nil]; omega
  · split
    · simp only [List.length_cons, List.length_nil]; omega
    · simp only [List.length_nil]; omega
theorem strQ_enc (s : List UInt8) : strQ (encL s) = bodyL s := by
  obtain ⟨k, hk⟩ := padL_rep s.length
  rw [encL_body, hk, strQ_pad, strQ_none (bodyL_not s)]
theorem bare_body (s : List UInt8) : bareB (bodyL s) = bodyL s := bareB_none (last_not (bodyL_not s))
theorem bare_enc (s : List UInt8) : bareB (encL s) = bodyL s := by
  have h := encL_len s
  unfold bareB
  rw [if_pos (by omega), encL_body]
  unfold padL
  split
  · rw [show bodyL s ++ [61, 61] = (bodyL s ++ [61]) ++ [(61 : UInt8)] by simp, trimQ_snoc, trimQ_snoc]
  · split
    · rw [trimQ_snoc, trimQ_else (last_not (bodyL_not s))]
    · rw [List.append_nil, trimQ_else (last_not (bodyL_not s)), trimQ_else (last_not (bodyL_not s))]
theorem dec_of_bare {s x : List UInt8} (h : bareB x = bodyL s) : decL x = some s := by
  unfold decL
  rw [h, if_neg (by rw [bodyL_len]; omega), bodyL, valsL_letN (encV_lt s)]
  exact dec_enc s
theorem dec_encL (s : List UInt8) : decL (encL s) = some s := dec_of_bare (bare_enc s)
theorem dec_body (s : List UInt8) : decL (bodyL s) = some s := dec_of_bare (bare_body s)
/-- Other letters here and there. -/
def othB (c : UInt8) : UInt8 := if c = 43 then 45 else if c = 47 then 95 else c
def othL : List UInt8 → List Bool → List UInt8
  | [], _ => []
  | s, [] => s
  | c :: t, b :: bs => (if b then othB c else c) :: othL t bs
theorem oth_pln (c : UInt8) (h1 : c ≠ 45) (h2 : c ≠ 95) : plnB (othB c) = c ∧ plnB c = c := by
  unfold othB plnB
  constructor
  · by_cases a : c = 43
    · subst a; rfl
    · by_cases b : c = 47
      · subst b; rfl
      · rw [if_neg a, if_neg b, if_neg h1, if_neg h2]
  · rw [if_neg h1, if_neg h2]
theorem pln_id : ∀ (s : List UInt8), (∀ c ∈ s, c ≠ 45 ∧ c ≠ 95) → plnL s = s
  | [], _ => rfl
  | c :: t, h => by
    have := h c (by simp)
    have e : plnL (c :: t) = plnB c :: plnL t := rfl
    rw [e, pln_id t (fun x hx => h x (by simp [hx])), (oth_pln c this.1 this.2).2]
theorem pln_oth : ∀ (s : List UInt8) (bs : List Bool), (∀ c ∈ s, c ≠ 45 ∧ c ≠ 95) → plnL (othL s bs) = s
  | [], bs, _ => by cases bs <;> rfl
  | c :: t, [], h => pln_id _ h
  | c :: t, b :: bs, h => by
    have hc := h c (by simp)
    have ih := pln_oth t bs (fun x hx => h x (by simp [hx]))
    have e : plnL (othL (c :: t) (b :: bs)) = plnB (if b then othB c else c) :: plnL (othL t bs) := rfl
    rw [e, ih]
    cases b
    · simp [(oth_pln c hc.1 hc.2).2]
    · simp [(oth_pln c hc.1 hc.2).1]
theorem encL_mem (s : List UInt8) : ∀ c ∈ encL s, c ≠ 45 ∧ c ≠ 95 := by
  intro c hc
  rw [encL_body, List.mem_append] at hc
  rcases hc with hc | hc
  · exact (bodyL_mem s c hc).2
  · obtain ⟨k, hk⟩ := padL_rep s.length
    rw [hk] at hc
    rw [(List.mem_replicate.1 hc).2]
    decide
theorem pln_oth_enc (s : List UInt8) (bs : List Bool) : plnL (othL (encL s) bs) = encL s := pln_oth _ _ (encL_mem s)
theorem dec_oth (s : List UInt8) (bs : List Bool) : decL (othL (encL s) bs) = some s := by
  rw [← decL_pln, pln_oth_enc, dec_encL]
/-- What is decoded is, but for other letters and for = at its end, the letters of its bytes. -/
theorem way (s u : List UInt8) (h : decL s = some u) : strQ (encL u) = strQ (plnL s) := by
  unfold decL at h
  split at h
  · cases h
  · cases hv : valsL (bareB s) with
    | none => rw [hv] at h; cases h
    | some vs =>
      rw [hv] at h
      simp only [Option.bind_some] at h
      have e := enc_dec vs u (valsL_lt hv) h
      have e2 := valsL_map hv
      rw [strQ_enc, bodyL, e, e2]
      obtain ⟨n, hn⟩ := bareB_split s
      have e3 : plnL s = plnL (bareB s) ++ List.replicate n 61 := by
        have : plnL (bareB s ++ List.replicate n 61) = plnL (bareB s) ++ List.replicate n 61 := by
          unfold plnL
          rw [List.map_append, List.map_replicate]
          rfl
        rw [← this, ← hn]
      rw [e3, strQ_pad, strQ_none]
      · rfl
      · intro hm
        rw [plnL, ← e2] at hm
        obtain ⟨v, hv2, hv3⟩ := List.mem_map.1 hm
        exact (letN_not v (valsL_lt hv v hv2)).1 hv3
theorem dec_len (s : List UInt8) (c : UInt8) (h : s.length % 4 = 0) : decL (s ++ [c]) = none := by
  have e : bareB (s ++ [c]) = s ++ [c] := by
    unfold bareB
    rw [if_neg (by simp only [List.length_append, List.length_cons, List.length_nil]; omega)]
  unfold decL
  rw [e, if_pos (by simp only [List.length_append, List.length_cons, List.length_nil]; omega)]
/-- A byte more that is no letter. -/
theorem spoilt (s : List UInt8) (c : UInt8) (k : Nat) (hk : k ≤ (bodyL s).length) (hc : isLet c = false) (h : c ≠ 61 ∨ k < (bodyL s).length) : decL ((bodyL s).take k ++ [c] ++ (bodyL s).drop k) = none := by
  have hw : worB c = none := by
    have := isLet_wor c
    rw [hc] at this
    cases hx : worB c with
    | none => rfl
    | some n => rw [hx] at this; cases this
  have hl : ((bodyL s).take k ++ [c] ++ (bodyL s).drop k).getLast? ≠ some 61 := by
    by_cases hk2 : k < (bodyL s).length
    · intro e
      have hne : (bodyL s).drop k ≠ [] := by
        intro e2
        have := congrArg List.length e2
        simp only [List.length_drop, List.length_nil] at this
        omega
      rw [List.getLast?_append, Option.or_eq_some_iff] at e
      rcases e with e | ⟨e, _⟩
      · exact bodyL_not s (List.mem_of_mem_drop (List.mem_of_getLast? e))
      · exact hne (List.getLast?_eq_none_iff.1 e)
    · have hc2 : c ≠ 61 := h.resolve_right hk2
      rw [List.drop_eq_nil_of_le (by omega), List.append_nil]
      simpa using hc2
  unfold decL
  rw [bareB_none hl]
  split
  · rfl
  · rw [List.append_assoc]
    rw [show [c] ++ (bodyL s).drop k = c :: (bodyL s).drop k from rfl, valsL_bad _ _ hw]
    rfl
end Go.Proofs.Ytkgieaokckidmaa
