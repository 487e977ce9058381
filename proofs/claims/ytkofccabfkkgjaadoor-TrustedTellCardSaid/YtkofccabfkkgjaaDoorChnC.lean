/-
  What is proved: which directives stand in for a name: the program's switch: a contract. No condition.
-/
import Derived.Test.YtkofccabfkkgjaaDoorChnE
namespace Go.Proofs.YtkofccabfkkgjaaDoor
open Go.RowKit

/-- 'append(b, s, t, ..)'. -/
theorem app_strs {ops : Array Oper} {rest : List Oper} {o : Oper} {a : Act} {Q : Exit → Act → World → Prop} {w : World} (hgd : o.guard = none) (s x : Operand)
    (ho : o.op = .call { callee := .builtin .append, args := #[s, x], argTypes := #[23, 23] })
    {B : Nat} {v : Value} {l : List (List UInt8)} (ms : List (List UInt8)) (m : Nat) (W : World) (hm : ms.length = m) (hs : a.eval s = v) (hw : w = W.alloc (.cells (Array.mk (strCells ms)) 9)) (hown : OwnS B v l W)
    (hx : a.eval x = .slice (some ⟨W.heap.size, 0, none⟩) m m) (hlen : l.length + m ≤ 1000000000) (hbase : B ≤ W.heap.size)
    (h : ∀ v' w', OwnS B v' (l ++ ms) w' → Below B W w' → wpList Tryd.prog ops Q rest (a.put o.dst v') w') : wpList Tryd.prog ops Q (o :: rest) a w := by
  obtain ⟨i0, hi, hz0, hz1, hz2⟩ := info_parts Tryd.infoStr
  subst hw hm
  refine wpList_append_own _ hgd s x 23 ho B 9 i0 (.string ByteArray.empty) 1 16 Tryd.underlying23 hi hz0 hz1 hz2 rfl (by decide) v l.length _ hs (World.ownsRow.alloc hown _) _ ms.length ms.length (strCells ms) hx (by simp [strCells]) (World.news_of_block (heap_alloc_new W _)) ?_ (by unfold maxLen; omega) (by omega) (by simp; omega) ?_
  · intro u hu
    obtain ⟨c, _, rfl⟩ := List.mem_map.1 hu
    rfl
  · intro v' w' h1 h2 _
    refine h v' w' ?_ (below_grown (Below.refl _ _) hbase hown (grown_trans_alloc h2))
    unfold OwnS
    rw [strCells_app, List.length_append]
    exact h1
/-- A list that is written out. -/
theorem OwnS.lit (w : World) (l : List (List UInt8)) (n : Nat) (hn : l.length = n) (hl : n ≤ maxLen) : OwnS w.heap.size (.slice (some ⟨w.heap.size, 0, none⟩) n n) l (w.alloc (.cells (Array.mk (strCells l)) 9)) := by
  subst hn
  refine ⟨by simp [strCells], .inr ⟨w.heap.size, l.length, _, rfl, Nat.le_refl _, heap_alloc_new w _, Nat.le_refl _, hl, by simp [strCells], List.take_of_length_le (by simp [strCells])⟩⟩
theorem chain_other {n : List UInt8} (h0 : ¬ n = [115, 99, 114, 105, 112, 116, 45, 115, 114, 99, 45, 101, 108, 101, 109]) (h1 : ¬ n = [115, 99, 114, 105, 112, 116, 45, 115, 114, 99, 45, 97, 116, 116, 114]) (h2 : ¬ n = [115, 99, 114, 105, 112, 116, 45, 115, 114, 99]) (h3 : ¬ n = [99, 111, 110, 110, 101, 99, 116, 45, 115, 114, 99]) (h4 : ¬ n = [109, 97, 110, 105, 102, 101, 115, 116, 45, 115, 114, 99]) (h5 : ¬ n = [111, 98, 106, 101, 99, 116, 45, 115, 114, 99]) (h6 : ¬ n = [102, 111, 110, 116, 45, 115, 114, 99]) (h7 : ¬ n = [105, 109, 103, 45, 115, 114, 99]) (h8 : ¬ n = [109, 101, 100, 105, 97, 45, 115, 114, 99]) (h9 : ¬ n = [115, 116, 121, 108, 101, 45, 115, 114, 99, 45, 101, 108, 101, 109]) (h10 : ¬ n = [115, 116, 121, 108, 101, 45, 115, 114, 99, 45, 97, 116, 116, 114]) (h11 : ¬ n = [119, 111, 114, 107, 101, 114, 45, 115, 114, 99]) (h12 : ¬ n = [102, 114, 97, 109, 101, 45, 115, 114, 99]) (h13 : ¬ n = [115, 116, 121, 108, 101, 45, 115, 114, 99]) (h14 : ¬ n = [99, 104, 105, 108, 100, 45, 115, 114, 99]) : chainL n = [n] := by
  unfold chainL aloneL
  simp only [h0, h1, h2, h3, h4, h5, h6, h7, h8, h9, h10, h11, h12, h13, h14, List.mem_cons, List.not_mem_nil, or_self, if_false]
set_option maxHeartbeats 4000000 in
theorem chain_at0 (w : World) :
    Calls Tryd.prog 12 #[.string ⟨⟨[115, 99, 114, 105, 112, 116, 45, 115, 114, 99, 45, 101, 108, 101, 109]⟩⟩] w fun e w' => ∃ v, e = .returned v ∧ OwnS w.heap.size v [[115, 99, 114, 105, 112, 116, 45, 115, 114, 99, 45, 101, 108, 101, 109], [115, 99, 114, 105, 112, 116, 45, 115, 114, 99], [100, 101, 102, 97, 117, 108, 116, 45, 115, 114, 99]] w' ∧ Ext w w' := by
  go_enter Tryd.func12, Tryd.ntmps12
  go_wp2_with (first | (at_builtin; refine app_str rfl _ _ rfl [115, 99, 114, 105, 112, 116, 45, 115, 114, 99, 45, 101, 108, 101, 109] _ w rfl rfl rfl (OwnS.nil w.heap.size w) rfl (by simp) (Nat.le_refl _) ?_; intro v1 w1 h1 x1) | (at_builtin; refine app_strs rfl _ _ rfl [[115, 99, 114, 105, 112, 116, 45, 115, 114, 99], [100, 101, 102, 97, 117, 108, 116, 45, 115, 114, 99]] 2 w1 rfl rfl rfl h1 rfl (by simp) x1.size ?_; intro v2 w2 h2 x2))
  go_ret
  exact ⟨_, rfl, h2, Below.trans x1 x2⟩
set_option maxHeartbeats 4000000 in
theorem chain_at1 (w : World) :
    Calls Tryd.prog 12 #[.string ⟨⟨[115, 99, 114, 105, 112, 116, 45, 115, 114, 99, 45, 97, 116, 116, 114]⟩⟩] w fun e w' => ∃ v, e = .returned v ∧ OwnS w.heap.size v [[115, 99, 114, 105, 112, 116, 45, 115, 114, 99, 45, 97, 116, 116, 114], [115, 99, 114, 105, 112, 116, 45, 115, 114, 99], [100, 101, 102, 97, 117, 108, 116, 45, 115, 114, 99]] w' ∧ Ext w w' := by
  go_enter Tryd.func12, Tryd.ntmps12
  go_wp2_with (first | (at_builtin; refine app_str rfl _ _ rfl [115, 99, 114, 105, 112, 116, 45, 115, 114, 99, 45, 97, 116, 116, 114] _ w rfl rfl rfl (OwnS.nil w.heap.size w) rfl (by simp) (Nat.le_refl _) ?_; intro v1 w1 h1 x1) | (at_builtin; refine app_strs rfl _ _ rfl [[115, 99, 114, 105, 112, 116, 45, 115, 114, 99], [100, 101, 102, 97, 117, 108, 116, 45, 115, 114, 99]] 2 w1 rfl rfl rfl h1 rfl (by simp) x1.size ?_; intro v2 w2 h2 x2))
  go_ret
  exact ⟨_, rfl, h2, Below.trans x1 x2⟩
set_option maxHeartbeats 4000000 in
theorem chain_at2 (w : World) :
    Calls Tryd.prog 12 #[.string ⟨⟨[115, 99, 114, 105, 112, 116, 45, 115, 114, 99]⟩⟩] w fun e w' => ∃ v, e = .returned v ∧ OwnS w.heap.size v [[115, 99, 114, 105, 112, 116, 45, 115, 114, 99], [100, 101, 102, 97, 117, 108, 116, 45, 115, 114, 99]] w' ∧ Ext w w' := by
  go_enter Tryd.func12, Tryd.ntmps12
  go_wp2_with (at_builtin; refine app_strs rfl _ _ rfl [[115, 99, 114, 105, 112, 116, 45, 115, 114, 99], [100, 101, 102, 97, 117, 108, 116, 45, 115, 114, 99]] 2 w rfl rfl rfl (OwnS.nil w.heap.size w) rfl (by simp) (Nat.le_refl _) ?_; intro v2 w2 h2 x2)
  go_ret
  exact ⟨_, rfl, h2, x2⟩
set_option maxHeartbeats 4000000 in
theorem chain_at3 (w : World) :
    Calls Tryd.prog 12 #[.string ⟨⟨[99, 111, 110, 110, 101, 99, 116, 45, 115, 114, 99]⟩⟩] w fun e w' => ∃ v, e = .returned v ∧ OwnS w.heap.size v [[99, 111, 110, 110, 101, 99, 116, 45, 115, 114, 99], [100, 101, 102, 97, 117, 108, 116, 45, 115, 114, 99]] w' ∧ Ext w w' := by
  go_enter Tryd.func12, Tryd.ntmps12
  go_wp2_with (at_builtin; refine app_strs rfl _ _ rfl [[99, 111, 110, 110, 101, 99, 116, 45, 115, 114, 99], [100, 101, 102, 97, 117, 108, 116, 45, 115, 114, 99]] 2 w rfl rfl rfl (OwnS.nil w.heap.size w) rfl (by simp) (Nat.le_refl _) ?_; intro v2 w2 h2 x2)
  go_ret
  exact ⟨_, rfl, h2, x2⟩
set_option maxHeartbeats 4000000 in
theorem chain_at4 (w : World) :
    Calls Tryd.prog 12 #[.string ⟨⟨[109, 97, 110, 105, 102, 101, 115, 116, 45, 115, 114, 99]⟩⟩] w fun e w' => ∃ v, e = .returned v ∧ OwnS w.heap.size v [[109, 97, 110, 105, 102, 101, 115, 116, 45, 115, 114, 99], [100, 101, 102, 97, 117, 108, 116, 45, 115, 114, 99]] w' ∧ Ext w w' := by
  go_enter Tryd.func12, Tryd.ntmps12
  go_wp2_with (at_builtin; refine app_strs rfl _ _ rfl [[109, 97, 110, 105, 102, 101, 115, 116, 45, 115, 114, 99], [100, 101, 102, 97, 117, 108, 116, 45, 115, 114, 99]] 2 w rfl rfl rfl (OwnS.nil w.heap.size w) rfl (by simp) (Nat.le_refl _) ?_; intro v2 w2 h2 x2)
  go_ret
  exact ⟨_, rfl, h2, x2⟩
set_option maxHeartbeats 4000000 in
theorem chain_at5 (w : World) :
    Calls Tryd.prog 12 #[.string ⟨⟨[111, 98, 106, 101, 99, 116, 45, 115, 114, 99]⟩⟩] w fun e w' => ∃ v, e = .returned v ∧ OwnS w.heap.size v [[111, 98, 106, 101, 99, 116, 45, 115, 114, 99], [100, 101, 102, 97, 117, 108, 116, 45, 115, 114, 99]] w' ∧ Ext w w' := by
  go_enter Tryd.func12, Tryd.ntmps12
  go_wp2_with (at_builtin; refine app_strs rfl _ _ rfl [[111, 98, 106, 101, 99, 116, 45, 115, 114, 99], [100, 101, 102, 97, 117, 108, 116, 45, 115, 114, 99]] 2 w rfl rfl rfl (OwnS.nil w.heap.size w) rfl (by simp) (Nat.le_refl _) ?_; intro v2 w2 h2 x2)
  go_ret
  exact ⟨_, rfl, h2, x2⟩
set_option maxHeartbeats 4000000 in
theorem chain_at6 (w : World) :
    Calls Tryd.prog 12 #[.string ⟨⟨[102, 111, 110, 116, 45, 115, 114, 99]⟩⟩] w fun e w' => ∃ v, e = .returned v ∧ OwnS w.heap.size v [[102, 111, 110, 116, 45, 115, 114, 99], [100, 101, 102, 97, 117, 108, 116, 45, 115, 114, 99]] w' ∧ Ext w w' := by
  go_enter Tryd.func12, Tryd.ntmps12
  go_wp2_with (at_builtin; refine app_strs rfl _ _ rfl [[102, 111, 110, 116, 45, 115, 114, 99], [100, 101, 102, 97, 117, 108, 116, 45, 115, 114, 99]] 2 w rfl rfl rfl (OwnS.nil w.heap.size w) rfl (by simp) (Nat.le_refl _) ?_; intro v2 w2 h2 x2)
  go_ret
  exact ⟨_, rfl, h2, x2⟩
set_option maxHeartbeats 4000000 in
theorem chain_at7 (w : World) :
    Calls Tryd.prog 12 #[.string ⟨⟨[105, 109, 103, 45, 115, 114, 99]⟩⟩] w fun e w' => ∃ v, e = .returned v ∧ OwnS w.heap.size v [[105, 109, 103, 45, 115, 114, 99], [100, 101, 102, 97, 117, 108, 116, 45, 115, 114, 99]] w' ∧ Ext w w' := by
  go_enter Tryd.func12, Tryd.ntmps12
  go_wp2_with (at_builtin; refine app_strs rfl _ _ rfl [[105, 109, 103, 45, 115, 114, 99], [100, 101, 102, 97, 117, 108, 116, 45, 115, 114, 99]] 2 w rfl rfl rfl (OwnS.nil w.heap.size w) rfl (by simp) (Nat.le_refl _) ?_; intro v2 w2 h2 x2)
  go_ret
  exact ⟨_, rfl, h2, x2⟩
set_option maxHeartbeats 4000000 in
theorem chain_at8 (w : World) :
    Calls Tryd.prog 12 #[.string ⟨⟨[109, 101, 100, 105, 97, 45, 115, 114, 99]⟩⟩] w fun e w' => ∃ v, e = .returned v ∧ OwnS w.heap.size v [[109, 101, 100, 105, 97, 45, 115, 114, 99], [100, 101, 102, 97, 117, 108, 116, 45, 115, 114, 99]] w' ∧ Ext w w' := by
  go_enter Tryd.func12, Tryd.ntmps12
  go_wp2_with (at_builtin; refine app_strs rfl _ _ rfl [[109, 101, 100, 105, 97, 45, 115, 114, 99], [100, 101, 102, 97, 117, 108, 116, 45, 115, 114, 99]] 2 w rfl rfl rfl (OwnS.nil w.heap.size w) rfl (by simp) (Nat.le_refl _) ?_; intro v2 w2 h2 x2)
  go_ret
  exact ⟨_, rfl, h2, x2⟩
set_option maxHeartbeats 4000000 in
theorem chain_at9 (w : World) :
    Calls Tryd.prog 12 #[.string ⟨⟨[115, 116, 121, 108, 101, 45, 115, 114, 99, 45, 101, 108, 101, 109]⟩⟩] w fun e w' => ∃ v, e = .returned v ∧ OwnS w.heap.size v [[115, 116, 121, 108, 101, 45, 115, 114, 99, 45, 101, 108, 101, 109], [115, 116, 121, 108, 101, 45, 115, 114, 99], [100, 101, 102, 97, 117, 108, 116, 45, 115, 114, 99]] w' ∧ Ext w w' := by
  go_enter Tryd.func12, Tryd.ntmps12
  go_wp2
  go_ret
  exact ⟨_, rfl, OwnS.lit w [[115, 116, 121, 108, 101, 45, 115, 114, 99, 45, 101, 108, 101, 109], [115, 116, 121, 108, 101, 45, 115, 114, 99], [100, 101, 102, 97, 117, 108, 116, 45, 115, 114, 99]] 3 rfl (by decide), (Below.refl _ _).alloc (Nat.le_refl _) _⟩
set_option maxHeartbeats 4000000 in
theorem chain_at10 (w : World) :
    Calls Tryd.prog 12 #[.string ⟨⟨[115, 116, 121, 108, 101, 45, 115, 114, 99, 45, 97, 116, 116, 114]⟩⟩] w fun e w' => ∃ v, e = .returned v ∧ OwnS w.heap.size v [[115, 116, 121, 108, 101, 45, 115, 114, 99, 45, 97, 116, 116, 114], [115, 116, 121, 108, 101, 45, 115, 114, 99], [100, 101, 102, 97, 117, 108, 116, 45, 115, 114, 99]] w' ∧ Ext w w' := by
  go_enter Tryd.func12, Tryd.ntmps12
  go_wp2
  go_ret
  exact ⟨_, rfl, OwnS.lit w [[115, 116, 121, 108, 101, 45, 115, 114, 99, 45, 97, 116, 116, 114], [115, 116, 121, 108, 101, 45, 115, 114, 99], [100, 101, 102, 97, 117, 108, 116, 45, 115, 114, 99]] 3 rfl (by decide), (Below.refl _ _).alloc (Nat.le_refl _) _⟩
set_option maxHeartbeats 4000000 in
theorem chain_at11 (w : World) :
    Calls Tryd.prog 12 #[.string ⟨⟨[119, 111, 114, 107, 101, 114, 45, 115, 114, 99]⟩⟩] w fun e w' => ∃ v, e = .returned v ∧ OwnS w.heap.size v [[119, 111, 114, 107, 101, 114, 45, 115, 114, 99], [99, 104, 105, 108, 100, 45, 115, 114, 99], [115, 99, 114, 105, 112, 116, 45, 115, 114, 99], [100, 101, 102, 97, 117, 108, 116, 45, 115, 114, 99]] w' ∧ Ext w w' := by
  go_enter Tryd.func12, Tryd.ntmps12
  go_wp2
  go_ret
  exact ⟨_, rfl, OwnS.lit w [[119, 111, 114, 107, 101, 114, 45, 115, 114, 99], [99, 104, 105, 108, 100, 45, 115, 114, 99], [115, 99, 114, 105, 112, 116, 45, 115, 114, 99], [100, 101, 102, 97, 117, 108, 116, 45, 115, 114, 99]] 4 rfl (by decide), (Below.refl _ _).alloc (Nat.le_refl _) _⟩
set_option maxHeartbeats 4000000 in
theorem chain_at12 (w : World) :
    Calls Tryd.prog 12 #[.string ⟨⟨[102, 114, 97, 109, 101, 45, 115, 114, 99]⟩⟩] w fun e w' => ∃ v, e = .returned v ∧ OwnS w.heap.size v [[102, 114, 97, 109, 101, 45, 115, 114, 99], [99, 104, 105, 108, 100, 45, 115, 114, 99], [100, 101, 102, 97, 117, 108, 116, 45, 115, 114, 99]] w' ∧ Ext w w' := by
  go_enter Tryd.func12, Tryd.ntmps12
  go_wp2
  go_ret
  exact ⟨_, rfl, OwnS.lit w [[102, 114, 97, 109, 101, 45, 115, 114, 99], [99, 104, 105, 108, 100, 45, 115, 114, 99], [100, 101, 102, 97, 117, 108, 116, 45, 115, 114, 99]] 3 rfl (by decide), (Below.refl _ _).alloc (Nat.le_refl _) _⟩
set_option maxHeartbeats 4000000 in
theorem chain_at13 (w : World) :
    Calls Tryd.prog 12 #[.string ⟨⟨[115, 116, 121, 108, 101, 45, 115, 114, 99]⟩⟩] w fun e w' => ∃ v, e = .returned v ∧ OwnS w.heap.size v [[115, 116, 121, 108, 101, 45, 115, 114, 99], [100, 101, 102, 97, 117, 108, 116, 45, 115, 114, 99]] w' ∧ Ext w w' := by
  go_enter Tryd.func12, Tryd.ntmps12
  go_wp2
  go_ret
  exact ⟨_, rfl, OwnS.lit w [[115, 116, 121, 108, 101, 45, 115, 114, 99], [100, 101, 102, 97, 117, 108, 116, 45, 115, 114, 99]] 2 rfl (by decide), (Below.refl _ _).alloc (Nat.le_refl _) _⟩
set_option maxHeartbeats 4000000 in
theorem chain_at14 (w : World) :
    Calls Tryd.prog 12 #[.string ⟨⟨[99, 104, 105, 108, 100, 45, 115, 114, 99]⟩⟩] w fun e w' => ∃ v, e = .returned v ∧ OwnS w.heap.size v [[99, 104, 105, 108, 100, 45, 115, 114, 99], [100, 101, 102, 97, 117, 108, 116, 45, 115, 114, 99]] w' ∧ Ext w w' := by
  go_enter Tryd.func12, Tryd.ntmps12
  go_wp2
  go_ret
  exact ⟨_, rfl, OwnS.lit w [[99, 104, 105, 108, 100, 45, 115, 114, 99], [100, 101, 102, 97, 117, 108, 116, 45, 115, 114, 99]] 2 rfl (by decide), (Below.refl _ _).alloc (Nat.le_refl _) _⟩
set_option maxHeartbeats 4000000 in
theorem chain_atN (n : List UInt8) (h0 : (n == [115, 99, 114, 105, 112, 116, 45, 115, 114, 99, 45, 101, 108, 101, 109]) = false) (h1 : (n == [115, 99, 114, 105, 112, 116, 45, 115, 114, 99, 45, 97, 116, 116, 114]) = false) (h2 : (n == [115, 99, 114, 105, 112, 116, 45, 115, 114, 99]) = false) (h3 : (n == [99, 111, 110, 110, 101, 99, 116, 45, 115, 114, 99]) = false) (h4 : (n == [109, 97, 110, 105, 102, 101, 115, 116, 45, 115, 114, 99]) = false) (h5 : (n == [111, 98, 106, 101, 99, 116, 45, 115, 114, 99]) = false) (h6 : (n == [102, 111, 110, 116, 45, 115, 114, 99]) = false) (h7 : (n == [105, 109, 103, 45, 115, 114, 99]) = false) (h8 : (n == [109, 101, 100, 105, 97, 45, 115, 114, 99]) = false) (h9 : (n == [115, 116, 121, 108, 101, 45, 115, 114, 99, 45, 101, 108, 101, 109]) = false) (h10 : (n == [115, 116, 121, 108, 101, 45, 115, 114, 99, 45, 97, 116, 116, 114]) = false) (h11 : (n == [119, 111, 114, 107, 101, 114, 45, 115, 114, 99]) = false) (h12 : (n == [102, 114, 97, 109, 101, 45, 115, 114, 99]) = false) (h13 : (n == [115, 116, 121, 108, 101, 45, 115, 114, 99]) = false) (h14 : (n == [99, 104, 105, 108, 100, 45, 115, 114, 99]) = false) (w : World) :
    Calls Tryd.prog 12 #[.string ⟨⟨n⟩⟩] w fun e w' => ∃ v, e = .returned v ∧ OwnS w.heap.size v [n] w' ∧ Ext w w' := by
  go_enter Tryd.func12, Tryd.ntmps12
  go_wp2
  go_ret
  exact ⟨_, rfl, OwnS.lit w [n] 1 rfl (by decide), (Below.refl _ _).alloc (Nat.le_refl _) _⟩
theorem chain_any (n : List UInt8) (w : World) :
    Calls Tryd.prog 12 #[.string ⟨⟨n⟩⟩] w fun e w' => ∃ v, e = .returned v ∧ OwnS w.heap.size v (chainL n) w' ∧ Ext w w' := by
  by_cases h0 : n = [115, 99, 114, 105, 112, 116, 45, 115, 114, 99, 45, 101, 108, 101, 109]
  · rw [h0, show chainL [115, 99, 114, 105, 112, 116, 45, 115, 114, 99, 45, 101, 108, 101, 109] = [[115, 99, 114, 105, 112, 116, 45, 115, 114, 99, 45, 101, 108, 101, 109], [115, 99, 114, 105, 112, 116, 45, 115, 114, 99], [100, 101, 102, 97, 117, 108, 116, 45, 115, 114, 99]] from by decide]
    exact chain_at0 w
  by_cases h1 : n = [115, 99, 114, 105, 112, 116, 45, 115, 114, 99, 45, 97, 116, 116, 114]
  · rw [h1, show chainL [115, 99, 114, 105, 112, 116, 45, 115, 114, 99, 45, 97, 116, 116, 114] = [[115, 99, 114, 105, 112, 116, 45, 115, 114, 99, 45, 97, 116, 116, 114], [115, 99, 114, 105, 112, 116, 45, 115, 114, 99], [100, 101, 102, 97, 117, 108, 116, 45, 115, 114, 99]] from by decide]
    exact chain_at1 w
  by_cases h2 : n = [115, 99, 114, 105, 112, 116, 45, 115, 114, 99]
  · rw [h2, show chainL [115, 99, 114, 105, 112, 116, 45, 115, 114, 99] = [[115, 99, 114, 105, 112, 116, 45, 115, 114, 99], [100, 101, 102, 97, 117, 108, 116, 45, 115, 114, 99]] from by decide]
    exact chain_at2 w
  by_cases h3 : n = [99, 111, 110, 110, 101, 99, 116, 45, 115, 114, 99]
  · rw [h3, show chainL [99, 111, 110, 110, 101, 99, 116, 45, 115, 114, 99] = [[99, 111, 110, 110, 101, 99, 116, 45, 115, 114, 99], [100, 101, 102, 97, 117, 108, 116, 45, 115, 114, 99]] from by decide]
    exact chain_at3 w
  by_cases h4 : n = [109, 97, 110, 105, 102, 101, 115, 116, 45, 115, 114, 99]
  · rw [h4, show chainL [109, 97, 110, 105, 102, 101, 115, 116, 45, 115, 114, 99] = [[109, 97, 110, 105, 102, 101, 115, 116, 45, 115, 114, 99], [100, 101, 102, 97, 117, 108, 116, 45, 115, 114, 99]] from by decide]
    exact chain_at4 w
  by_cases h5 : n = [111, 98, 106, 101, 99, 116, 45, 115, 114, 99]
  · rw [h5, show chainL [111, 98, 106, 101, 99, 116, 45, 115, 114, 99] = [[111, 98, 106, 101, 99, 116, 45, 115, 114, 99], [100, 101, 102, 97, 117, 108, 116, 45, 115, 114, 99]] from by decide]
    exact chain_at5 w
  by_cases h6 : n = [102, 111, 110, 116, 45, 115, 114, 99]
  · rw [h6, show chainL [102, 111, 110, 116, 45, 115, 114, 99] = [[102, 111, 110, 116, 45, 115, 114, 99], [100, 101, 102, 97, 117, 108, 116, 45, 115, 114, 99]] from by decide]
    exact chain_at6 w
  by_cases h7 : n = [105, 109, 103, 45, 115, 114, 99]
  · rw [h7, show chainL [105, 109, 103, 45, 115, 114, 99] = [[105, 109, 103, 45, 115, 114, 99], [100, 101, 102, 97, 117, 108, 116, 45, 115, 114, 99]] from by decide]
    exact chain_at7 w
  by_cases h8 : n = [109, 101, 100, 105, 97, 45, 115, 114, 99]
  · rw [h8, show chainL [109, 101, 100, 105, 97, 45, 115, 114, 99] = [[109, 101, 100, 105, 97, 45, 115, 114, 99], [100, 101, 102, 97, 117, 108, 116, 45, 115, 114, 99]] from by decide]
    exact chain_at8 w
  by_cases h9 : n = [115, 116, 121, 108, 101, 45, 115, 114, 99, 45, 101, 108, 101, 109]
  · rw [h9, show chainL [115, 116, 121, 108, 101, 45, 115, 114, 99, 45, 101, 108, 101, 109] = [[115, 116, 121, 108, 101, 45, 115, 114, 99, 45, 101, 108, 101, 109], [115, 116, 121, 108, 101, 45, 115, 114, 99], [100, 101, 102, 97, 117, 108, 116, 45, 115, 114, 99]] from by decide]
    exact chain_at9 w
  by_cases h10 : n = [115, 116, 121, 108, 101, 45, 115, 114, 99, 45, 97, 116, 116, 114]
  · rw [h10, show chainL [115, 116, 121, 108, 101, 45, 115, 114, 99, 45, 97, 116, 116, 114] = [[115, 116, 121, 108, 101, 45, 115, 114, 99, 45, 97, 116, 116, 114], [115, 116, 121, 108, 101, 45, 115, 114, 99], [100, 101, 102, 97, 117, 108, 116, 45, 115, 114, 99]] from by decide]
    exact chain_at10 w
  by_cases h11 : n = [119, 111, 114, 107, 101, 114, 45, 115, 114, 99]
  · rw [h11, show chainL [119, 111, 114, 107, 101, 114, 45, 115, 114, 99] = [[119, 111, 114, 107, 101, 114, 45, 115, 114, 99], [99, 104, 105, 108, 100, 45, 115, 114, 99], [115, 99, 114, 105, 112, 116, 45, 115, 114, 99], [100, 101, 102, 97, 117, 108, 116, 45, 115, 114, 99]] from by decide]
    exact chain_at11 w
  by_cases h12 : n = [102, 114, 97, 109, 101, 45, 115, 114, 99]
  · rw [h12, show chainL [102, 114, 97, 109, 101, 45, 115, 114, 99] = [[102, 114, 97, 109, 101, 45, 115, 114, 99], [99, 104, 105, 108, 100, 45, 115, 114, 99], [100, 101, 102, 97, 117, 108, 116, 45, 115, 114, 99]] from by decide]
    exact chain_at12 w
  by_cases h13 : n = [115, 116, 121, 108, 101, 45, 115, 114, 99]
  · rw [h13, show chainL [115, 116, 121, 108, 101, 45, 115, 114, 99] = [[115, 116, 121, 108, 101, 45, 115, 114, 99], [100, 101, 102, 97, 117, 108, 116, 45, 115, 114, 99]] from by decide]
    exact chain_at13 w
  by_cases h14 : n = [99, 104, 105, 108, 100, 45, 115, 114, 99]
  · rw [h14, show chainL [99, 104, 105, 108, 100, 45, 115, 114, 99] = [[99, 104, 105, 108, 100, 45, 115, 114, 99], [100, 101, 102, 97, 117, 108, 116, 45, 115, 114, 99]] from by decide]
    exact chain_at14 w
  rw [chain_other h0 h1 h2 h3 h4 h5 h6 h7 h8 h9 h10 h11 h12 h13 h14]
  exact chain_atN n (beq_eq_false_iff_ne.2 h0) (beq_eq_false_iff_ne.2 h1) (beq_eq_false_iff_ne.2 h2) (beq_eq_false_iff_ne.2 h3) (beq_eq_false_iff_ne.2 h4) (beq_eq_false_iff_ne.2 h5) (beq_eq_false_iff_ne.2 h6) (beq_eq_false_iff_ne.2 h7) (beq_eq_false_iff_ne.2 h8) (beq_eq_false_iff_ne.2 h9) (beq_eq_false_iff_ne.2 h10) (beq_eq_false_iff_ne.2 h11) (beq_eq_false_iff_ne.2 h12) (beq_eq_false_iff_ne.2 h13) (beq_eq_false_iff_ne.2 h14) w
end Go.Proofs.YtkofccabfkkgjaaDoor
