/-
  What is proved: the reference's doctypes are the program's: a contract. Condition: texts of less than 30000 bytes.
-/
import Derived.Test.YtbolajljfkjfaaaDoorRawNa
import Derived.Test.YtbolajljfkjfaaaDoorRawNb
namespace Go.Proofs.YtbolajljfkjfaaaDoor
open Go.RowKit

set_option maxRecDepth 100000 in
set_option maxHeartbeats 32000000 in
theorem docR_any (s : List UInt8) (i : Int) (w : World) (hs : s.length < 30000) (h0 : -9223372036854775808 ≤ i) (h1 : i ≤ 9223372036854775807) :
    Calls Tryd.prog 15 #[.string ⟨⟨s⟩⟩, .int .i64 i] w fun e w' => e = .returned (docV s i) ∧ Ext w w' := by
  rcases doc_cases s i with ⟨hb, hv⟩ | ⟨r, hb, hv⟩
  · have cb := stands_is (f := [60, 33, 100, 111, 99, 116, 121, 112, 101]) (i := i) (b := false) (by rw [show [60, 33, 100, 111, 99, 116, 121, 112, 101] = docF from rfl, hb]; rfl) (by omega) (by decide) h0 h1
    have HV := Lib.hid (docV_none hv)
    clear hb hv
    go_enter Tryd.func15, Tryd.ntmps15
    go_wp2_with (go_at_call 32; refine (cb _).mono ?_; rintro e w1 ⟨rfl, x1⟩; obtain ⟨hB, z1, hz1⟩ := tok_block x1; obtain ⟨⟨c0, c1, c2, c3, c4, c5, c6, c7, c8⟩, f0, f1, f2, f3, f4, f5, f6, f7, f8⟩ := tok_cells hB)
    refine bodyPost_ret (v := noneR) (by simp [results, Tryd.results15, go_sem, tokV, noneR, tokR, c0, c1, c2, c3, c4, c5, c6, c7, c8]) rfl ⟨ret_inj HV.out.symm, ?_⟩
    go_grown
  · have cb := stands_is (f := [60, 33, 100, 111, 99, 116, 121, 112, 101]) (i := i) (b := true) (by rw [show [60, 33, 100, 111, 99, 116, 121, 112, 101] = docF from rfl, hb]; rfl) (by omega) (by decide) h0 h1
    obtain ⟨q1, q2, q3, q4, q5⟩ := behI_some hb
    obtain ⟨k, rfl⟩ : ∃ k : Nat, i = k := ⟨i.toNat, by omega⟩
    have hol : ((docF.length : Nat) : Int) = 9 := rfl
    have hk9 : k + 9 ≤ s.length := by omega
    have hr : r = s.drop (k + 9) := by rw [q3, Int.toNat_natCast, List.drop_drop]; rfl
    rw [Int.toNat_natCast] at q5
    have hend := doc_end hk9 q5
    rw [hr] at hv
    have hbs : (behI docF s (k : Int)).isSome = true := by rw [hb]; rfl
    clear q1 q2 q3 q4 q5 hol hr hb
    rcases hend with ⟨hf, hu⟩ | ⟨e, hf, he1, he2, hu⟩
    · exact docR_a s k w hs h0 h1 hk9 hbs hv hf hu
    · exact docR_b s k w hs h0 h1 hk9 hbs hv e hf he1 he2 hu
end Go.Proofs.YtbolajljfkjfaaaDoor
