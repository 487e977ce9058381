/-
  What is proved: plain laws of lists of policies, of a policy as text, of a meta element's: the text of directives has these directives. No condition.
-/
import Derived.Test.YtfaomejdoljfnaaDoorFldP
import Derived.Lib.Join
namespace Go.Proofs.YtfaomejdoljfnaaDoor
open Go.RowKit

/-! ### texts cut at a byte, one behind the other -/
theorem splitG_two {c : UInt8} (t : List UInt8) : ∀ (l piece : List UInt8), splitG c piece (l ++ c :: t) = splitG c piece l ++ splitG c [] t
  | [], piece => by simp [splitG]
  | d :: l, piece => by
    show (if d = c then piece :: splitG c [] (l ++ c :: t) else splitG c (piece ++ [d]) (l ++ c :: t)) = (if d = c then piece :: splitG c [] l else splitG c (piece ++ [d]) l) ++ splitG c [] t
    split
    · rw [splitG_two t l []]
      rfl
    · exact splitG_two t l _
theorem split_two (c : UInt8) (l t : List UInt8) : splitL c (l ++ c :: t) = splitL c l ++ splitL c t := splitG_two t l []
theorem addD_pre (ds : List Dir) (p : List UInt8) : ∃ more, addD ds p = ds ++ more := by
  unfold addD
  split
  · exact ⟨[], by simp⟩
  · split
    · exact ⟨[], by simp⟩
    · exact ⟨_, rfl⟩
theorem fold_pre : ∀ (ps : List (List UInt8)) (ds : List Dir), ∃ more, ps.foldl addD ds = ds ++ more
  | [], ds => ⟨[], by simp⟩
  | p :: ps, ds => by
    obtain ⟨m1, h1⟩ := addD_pre ds p
    obtain ⟨m2, h2⟩ := fold_pre ps (addD ds p)
    exact ⟨m1 ++ m2, by rw [List.foldl_cons, h2, h1, List.append_assoc]⟩
theorem one_ahead (a s : List UInt8) : ∃ more, oneL (a ++ 59 :: s) = oneL a ++ more := by
  unfold oneL
  rw [split_two, List.foldl_append]
  exact fold_pre _ _

/-! ### what is true of each list -/
def CleanB (x : List UInt8) : Prop := x ≠ [] ∧ ∀ c ∈ x, spB c = false ∧ c ≠ 59
structure GoodE (d : Dir) : Prop where
  name : CleanB d.name
  low : lowL d.name = d.name
  vals : ∀ v ∈ d.vals, CleanB v
structure GoodL (ds : List Dir) : Prop where
  each : ∀ d ∈ ds, GoodE d
  once : ds.Pairwise fun a b => a.name ≠ b.name
theorem lowB_low (c : UInt8) : lowB (lowB c) = lowB c ∧ spB (lowB c) = spB c ∧ (lowB c = 59 ↔ c = 59) := by
  have key : ∀ n : Fin 256, lowB (lowB (UInt8.ofNat n)) = lowB (UInt8.ofNat n) ∧ spB (lowB (UInt8.ofNat n)) = spB (UInt8.ofNat n) ∧ (lowB (UInt8.ofNat n) = 59 ↔ UInt8.ofNat n = 59) := by decide +kernel
  have := key ⟨c.toNat, c.toNat_lt⟩
  simpa only [UInt8.ofNat_toNat] using this
theorem lowL_low (x : List UInt8) : lowL (lowL x) = lowL x := by
  unfold lowL
  rw [List.map_map]
  exact List.map_congr_left fun c _ => (lowB_low c).1
theorem clean_low {x : List UInt8} (h : CleanB x) : CleanB (lowL x) := by
  refine ⟨fun e => h.1 (by simpa [lowL] using e), fun c hc => ?_⟩
  unfold lowL at hc
  obtain ⟨d, hd, rfl⟩ := List.mem_map.1 hc
  have := h.2 d hd
  exact ⟨by rw [(lowB_low d).2.1]; exact this.1, fun e => this.2 ((lowB_low d).2.2.1 e)⟩
theorem fieldsG_sub (P : UInt8 → Prop) : ∀ (l p : List UInt8), (∀ c ∈ l, P c) → (∀ c ∈ p, P c ∧ spB c = false) → ∀ x ∈ fieldsG p l, ∀ c ∈ x, P c ∧ spB c = false
  | [], p, _, hp, x, hx => by
    unfold fieldsG pieceL at hx
    split at hx
    · cases hx
    · simp only [List.mem_singleton] at hx
      subst hx
      exact hp
  | d :: t, p, hl, hp, x, hx => by
    unfold fieldsG at hx
    split at hx
    · rcases List.mem_append.1 hx with hx | hx
      · unfold pieceL at hx
        split at hx
        · cases hx
        · simp only [List.mem_singleton] at hx
          subst hx
          exact hp
      · exact fieldsG_sub P t [] (fun c hc => hl c (by simp [hc])) (by simp) x hx
    · rename_i hd
      refine fieldsG_sub P t (p ++ [d]) (fun c hc => hl c (by simp [hc])) (fun c hc => ?_) x hx
      rcases List.mem_append.1 hc with hc | hc
      · exact hp c hc
      · simp only [List.mem_singleton] at hc
        subst hc
        exact ⟨hl c (by simp), by simpa using hd⟩
theorem splitG_sub {c : UInt8} : ∀ (l p : List UInt8), c ∉ p → ∀ x ∈ splitG c p l, c ∉ x
  | [], p, hp, x, hx => by
    simp only [splitG, List.mem_singleton] at hx
    subst hx
    exact hp
  | d :: t, p, hp, x, hx => by
    unfold splitG at hx
    split at hx
    · rcases List.mem_cons.1 hx with hx | hx
      · subst hx
        exact hp
      · exact splitG_sub t [] (by simp) x hx
    · rename_i hd
      refine splitG_sub t (p ++ [d]) (fun h => ?_) x hx
      rcases List.mem_append.1 h with h | h
      · exact hp h
      · simp only [List.mem_singleton] at h
        exact hd h.symm
theorem fields_clean {p : List UInt8} (hp : (59 : UInt8) ∉ p) : ∀ x ∈ fieldsL p, CleanB x := fun x hx =>
  ⟨fields_ne p [] x hx, fun c hc => by
    have := fieldsG_sub (fun c => c ≠ 59) p [] (fun c hc e => hp (e ▸ hc)) (by simp) x hx c hc
    exact ⟨this.2, this.1⟩⟩
theorem hasD_false {ds : List Dir} {n : List UInt8} (h : hasD ds n = false) : ∀ d ∈ ds, d.name ≠ n := by
  intro d hd e
  have : hasD ds n = true := List.any_eq_true.2 ⟨d, hd, by simpa using e⟩
  rw [h] at this
  cases this
theorem hasD_none {ds : List Dir} {n : List UInt8} (h : ∀ d ∈ ds, d.name ≠ n) : hasD ds n = false := by
  cases hh : hasD ds n
  · rfl
  · obtain ⟨d, hd, e⟩ := List.any_eq_true.1 hh
    exact absurd (by simpa using e) (h d hd)
theorem good_add {ds : List Dir} {p : List UInt8} (h : GoodL ds) (hp : (59 : UInt8) ∉ p) : GoodL (addD ds p) := by
  have hf := fields_clean hp
  unfold addD
  split
  · exact h
  · rename_i w ws he
    rw [he] at hf
    split
    · exact h
    · rename_i hh
      have hh2 : hasD ds (lowL w) = false := by simpa using hh
      refine ⟨fun d hd => ?_, ?_⟩
      · rcases List.mem_append.1 hd with hd | hd
        · exact h.each d hd
        · simp only [List.mem_singleton] at hd
          subst hd
          exact ⟨clean_low (hf w (by simp)), lowL_low w, fun v hv => hf v (by simp [hv])⟩
      · rw [List.pairwise_append]
        refine ⟨h.once, List.pairwise_singleton _ _, fun a ha b hb => ?_⟩
        simp only [List.mem_singleton] at hb
        subst hb
        exact hasD_false hh2 a ha
theorem good_fold : ∀ (ps : List (List UInt8)) (ds : List Dir), (∀ p ∈ ps, (59 : UInt8) ∉ p) → GoodL ds → GoodL (ps.foldl addD ds)
  | [], ds, _, h => h
  | p :: ps, ds, hp, h => good_fold ps (addD ds p) (fun q hq => hp q (by simp [hq])) (good_add h (hp p (by simp)))
theorem good_one (s : List UInt8) : GoodL (oneL s) := good_fold _ _ (fun p hp => splitG_sub s [] (by simp) p hp) ⟨by simp, List.Pairwise.nil⟩

/-! ### a policy as text -/
def dirText (d : Dir) : List UInt8 := Lib.join (d.name :: d.vals) [32]
def textL (ds : List Dir) : List UInt8 := Lib.join (ds.map dirText) [59, 32]
theorem dirText_eq (d : Dir) : dirText d = d.name ++ (d.vals.map fun v => 32 :: v).flatten := by
  unfold dirText
  rw [Lib.join_cons]
  rfl
theorem textL_cons (d : Dir) (ds : List Dir) : textL (d :: ds) = dirText d ++ (ds.map fun e => 59 :: 32 :: dirText e).flatten := by
  unfold textL
  rw [List.map_cons, Lib.join_cons]
  unfold Lib.joinTail
  rw [List.map_map]
  rfl
theorem fieldsG_run : ∀ (a p t : List UInt8), (∀ c ∈ a, spB c = false) → fieldsG p (a ++ t) = fieldsG (p ++ a) t
  | [], p, t, _ => by simp
  | c :: a, p, t, h => by
    show (if spB c then _ else fieldsG (p ++ [c]) (a ++ t)) = _
    rw [if_neg (by rw [h c (by simp)]; decide), fieldsG_run a _ t (fun x hx => h x (by simp [hx]))]
    simp
theorem pieceL_full {p : List UInt8} (h : p ≠ []) : pieceL p = [p] := by
  unfold pieceL
  rw [if_neg]
  simpa using h
theorem fields_words : ∀ (vs : List (List UInt8)) (p : List UInt8), p ≠ [] → (∀ v ∈ vs, CleanB v) → fieldsG p (vs.map fun v => 32 :: v).flatten = p :: vs
  | [], p, hp, _ => by
    show pieceL p = _
    exact pieceL_full hp
  | v :: vs, p, hp, h => by
    have hv := h v (by simp)
    show fieldsG p (32 :: v ++ (vs.map fun v => 32 :: v).flatten) = _
    show (if spB 32 then pieceL p ++ fieldsG [] (v ++ (vs.map fun v => 32 :: v).flatten) else _) = _
    rw [if_pos (by decide), pieceL_full hp, fieldsG_run v [] _ (fun c hc => (hv.2 c hc).1), List.nil_append, fields_words vs v hv.1 (fun x hx => h x (by simp [hx]))]
    rfl
theorem fields_dir {d : Dir} (h : GoodE d) : fieldsL (dirText d) = d.name :: d.vals := by
  rw [dirText_eq]
  unfold fieldsL
  rw [fieldsG_run d.name [] _ (fun c hc => (h.name.2 c hc).1), List.nil_append]
  exact fields_words d.vals d.name h.name.1 h.vals
theorem fields_dir32 {d : Dir} (h : GoodE d) : fieldsL (32 :: dirText d) = d.name :: d.vals := by
  have e : fieldsL (32 :: dirText d) = if spB 32 then pieceL [] ++ fieldsG [] (dirText d) else fieldsG ([] ++ [32]) (dirText d) := rfl
  rw [e, if_pos (by decide)]
  exact fields_dir h
theorem dirText_no {d : Dir} (h : GoodE d) : (59 : UInt8) ∉ dirText d := by
  rw [dirText_eq]
  intro hm
  rcases List.mem_append.1 hm with hm | hm
  · exact (h.name.2 _ hm).2 rfl
  · obtain ⟨l, hl, hm⟩ := List.mem_flatten.1 hm
    obtain ⟨v, hv, rfl⟩ := List.mem_map.1 hl
    rcases List.mem_cons.1 hm with hm | hm
    · cases hm
    · exact ((h.vals v hv).2 _ hm).2 rfl
theorem add_of {ds : List Dir} {d : Dir} {p : List UInt8} (h : GoodE d) (hf : fieldsL p = d.name :: d.vals) (hn : ∀ e ∈ ds, e.name ≠ d.name) : addD ds p = ds ++ [d] := by
  unfold addD
  rw [hf]
  simp only
  rw [h.low, hasD_none hn]
  simp
theorem split_tail : ∀ (ds : List Dir) (a : List UInt8), (∀ d ∈ ds, GoodE d) → (59 : UInt8) ∉ a → splitL 59 (a ++ (ds.map fun e => 59 :: 32 :: dirText e).flatten) = a :: ds.map fun e => 32 :: dirText e
  | [], a, _, ha => by
    simp only [List.map_nil, List.flatten_nil, List.append_nil]
    unfold splitL
    rw [splitG_miss a [] ha]
    rfl
  | d :: ds, a, h, ha => by
    have hd := dirText_no (h d (by simp))
    have e : a ++ ((d :: ds).map fun e => 59 :: 32 :: dirText e).flatten = a ++ 59 :: ((32 :: dirText d) ++ (ds.map fun e => 59 :: 32 :: dirText e).flatten) := by simp
    rw [e, split_two, split_tail ds (32 :: dirText d) (fun x hx => h x (by simp [hx])) (by simp [hd])]
    unfold splitL
    rw [splitG_miss a [] ha]
    rfl
theorem fold_dirs : ∀ (ds out : List Dir), (∀ d ∈ ds, GoodE d) → (out ++ ds).Pairwise (fun a b => a.name ≠ b.name) → (ds.map fun e => 32 :: dirText e).foldl addD out = out ++ ds
  | [], out, _, _ => by simp
  | d :: ds, out, h, hp => by
    have hd := h d (by simp)
    have hn : ∀ e ∈ out, e.name ≠ d.name := fun e he => (List.pairwise_append.1 hp).2.2 e he d (by simp)
    rw [List.map_cons, List.foldl_cons, add_of hd (fields_dir32 hd) hn, fold_dirs ds (out ++ [d]) (fun x hx => h x (by simp [hx])) (by simpa using hp)]
    simp
theorem one_text_back {ds : List Dir} (h : GoodL ds) : oneL (textL ds) = ds := by
  cases ds with
  | nil => rfl
  | cons d ds =>
    have hd := h.each d (by simp)
    rw [textL_cons]
    unfold oneL
    rw [split_tail ds _ (fun x hx => h.each x (by simp [hx])) (dirText_no hd), List.foldl_cons, add_of hd (fields_dir hd) (by simp)]
    exact fold_dirs ds [d] (fun x hx => h.each x (by simp [hx])) h.once
theorem one_back (s : List UInt8) : oneL (textL (oneL s)) = oneL s := one_text_back (good_one s)

/-! ### lists of policies, meta elements -/
def listStep (out : List (List Dir)) (p : List UInt8) : List (List Dir) := if oneL p = [] then out else out ++ [oneL p]
def listL (s : List UInt8) : List (List Dir) := (splitL 44 s).foldl listStep []
def hdrB (n : List UInt8) : Bool := n == [114, 101, 112, 111, 114, 116, 45, 117, 114, 105] || n == [102, 114, 97, 109, 101, 45, 97, 110, 99, 101, 115, 116, 111, 114, 115] || n == [115, 97, 110, 100, 98, 111, 120]
def metaL (ds : List Dir) : List Dir := ds.filter fun d => !hdrB d.name
theorem listStep_len (out : List (List Dir)) (p : List UInt8) : (listStep out p).length ≤ out.length + 1 := by
  unfold listStep
  split <;> simp
theorem list_fold_len : ∀ (ps : List (List UInt8)) (out : List (List Dir)), (ps.foldl listStep out).length ≤ out.length + ps.length
  | [], out => by simp
  | p :: ps, out => by
    have := list_fold_len ps (listStep out p)
    have h2 := listStep_len out p
    simp only [List.foldl_cons, List.length_cons]
    omega
theorem list_count (l : List UInt8) : (listL l).length ≤ l.length + 1 := by
  have h1 := list_fold_len (splitL 44 l) []
  have h2 := split_count 44 l
  unfold listL
  simp at h1
  omega
end Go.Proofs.YtfaomejdoljfnaaDoor
