/-
  What is proved: what ascii.Fields gives: a contract. Condition: texts of at most 100000 bytes.
-/
import Derived.Test.YtfaomejdoljfnaaDoorFld
namespace Go.Proofs.YtfaomejdoljfnaaDoor
open Go.RowKit

theorem FS.start (w : World) (l : List UInt8) : FS w l [] 0 (.slice none 0 0) (((w.alloc (.cells #[.string ⟨⟨l⟩⟩] 9)).alloc (.cells #[.slice none 0 0] 40)).alloc (.cells #[.int .i64 0] 3)) := by
  have h0 : (((w.alloc (.cells #[.string ⟨⟨l⟩⟩] 9)).alloc (.cells #[.slice none 0 0] 40)).alloc (.cells #[.int .i64 0] 3)).heap[w.heap.size]? = some (.cells #[.string ⟨⟨l⟩⟩] 9) := by
    rw [Below.heap_alloc _ _ _ (by simp; omega), Below.heap_alloc _ _ _ (by simp)]
    exact heap_alloc_new w _
  have h1 : (((w.alloc (.cells #[.string ⟨⟨l⟩⟩] 9)).alloc (.cells #[.slice none 0 0] 40)).alloc (.cells #[.int .i64 0] 3)).heap[w.heap.size + 1]? = some (.cells #[.slice none 0 0] 40) := by
    rw [Below.heap_alloc _ _ _ (by simp)]
    have := heap_alloc_new (w.alloc (.cells #[.string ⟨⟨l⟩⟩] 9)) (.cells #[.slice none 0 0] 40)
    rwa [World.size_alloc] at this
  have h2 : (((w.alloc (.cells #[.string ⟨⟨l⟩⟩] 9)).alloc (.cells #[.slice none 0 0] 40)).alloc (.cells #[.int .i64 0] 3)).heap[w.heap.size + 2]? = some (.cells #[.int .i64 0] 3) := by
    have := heap_alloc_new ((w.alloc (.cells #[.string ⟨⟨l⟩⟩] 9)).alloc (.cells #[.slice none 0 0] 40)) (.cells #[.int .i64 0] 3)
    rwa [World.size_alloc, World.size_alloc] at this
  refine ⟨(((Below.refl _ _).alloc (Nat.le_refl _) _).alloc (by simp) _).alloc (by simp; omega) _, by simp, ?_, ?_, ?_, ?_, ?_, OwnS.nil _ _⟩
  · unfold World.cell?; rw [h0]; rfl
  · unfold World.cell?; rw [h1]; rfl
  · unfold World.frozen?; rw [h1]; rfl
  · unfold World.cell?; rw [h2]; rfl
  · unfold World.frozen?; rw [h2]; rfl
set_option maxHeartbeats 4000000 in
theorem fields_any (l : List UInt8) (w : World) (hl : l.length < 100000) :
    Calls Tryd.prog 15 #[.string ⟨⟨l⟩⟩] w fun e w' => ∃ v, e = .returned v ∧ OwnS (w.heap.size + 3) v (fieldsL l) w' ∧ Ext w w' := by
  go_enter Tryd.func15, Tryd.ntmps15
  go_wp2_with fail
  go_loopw [10] (fun i wr => ∃ (k f : Nat) (out : List (List UInt8)) (v : Value), i = .int .i64 k ∧ k ≤ l.length ∧ FS w l out f v wr ∧ Hid (FldAt l out f k)) (fun i _ => l.length - (intOf i).toNat)
  case atStart => exact ⟨0, 0, [], _, rfl, by omega, FS.start w l, Lib.hid (FldAt.start l)⟩
  case round =>
    obtain ⟨k, f, out, v, rfl, hk, H, HA⟩ := hrel
    have hst := H.str
    have ho : out.length ≤ 100001 := by
      have h1 := HA.out.2
      have h2 := fields_count l
      rw [← h1, List.length_append] at h2
      omega
    by_cases hlt : k < l.length
    · obtain ⟨c, hcc⟩ : ∃ c, l[k] = c := ⟨_, rfl⟩
      have hcl := c.toNat_lt
      cases hc : spB c
      · have HN := Lib.hid (HA.out.other hlt (by rw [hcc]; exact hc))
        go_wp2_with (go_at_call 24; refine (space_any c _).mono ?_; rintro e w' ⟨rfl, rfl⟩)
        go_roundw
        case rel => exact ⟨k + 1, f, out, v, by go_num, by omega, H, HN⟩
        case measure => simp [intOf]; omega
      · have HN := Lib.hid (HA.out.space hlt (by rw [hcc]; exact hc))
        have hft := HA.out.1
        go_wp2_with (first | (go_at_call 24; refine (space_any c _).mono ?_; rintro e w' ⟨rfl, rfl⟩) | (go_at_call 23; refine (cut_any w l out f k v _ H hl (by omega) hft ho).mono ?_; rintro e w' ⟨rfl, v', F⟩))
        go_roundw
        case rel => exact ⟨k + 1, k + 1, _, v', by go_num, by omega, F, HN⟩
        case measure => simp [intOf]; omega
    · obtain rfl : k = l.length := by omega
      have HN := Lib.hid HA.out.last
      have hft := HA.out.1
      go_wp2_with (go_at_call 23; refine (cut_any w l out f l.length v _ H hl (Nat.le_refl _) hft ho).mono ?_; rintro e w' ⟨rfl, v', F⟩; have hls := F.lst)
      go_ret
      exact ⟨_, rfl, by have := F.own; rw [HN.out] at this; exact this, F.ext⟩
end Go.Proofs.YtfaomejdoljfnaaDoor
