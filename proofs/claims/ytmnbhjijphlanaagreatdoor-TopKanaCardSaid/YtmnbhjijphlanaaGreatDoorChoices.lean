/-
  choices, where no key is still to be written.
-/
import Derived.Test.YtmnbhjijphlanaaGreatDoorAfter
namespace Go.Proofs.YtmnbhjijphlanaaGreatDoor
open Go.RowKit Mp

set_option maxRecDepth 100000 in
set_option maxHeartbeats 1000000 in
/-- where no key is still to be written, the keys of rules are tried -/
theorem choices_kana (B0 a br bp bk cap : Nat) (PM : List (Kp.Bs × Bool)) (s : ByteArray) (w : World) (hA : AutoAt B0 w a br bp bk cap PM) (hB0 : B0 ≤ w.heap.size) (hs : s.size ≤ 100000) (hk : ∀ i, (h : i < s.size) → Kp.isKey s[i] = false) :
    Calls Tryz.prog 21 #[.pointer (some ⟨a, 0, none⟩), .string s] w fun e w' => e = .returned (.slice (some ⟨bk, 0, none⟩) Kp.akeys.length cap) ∧ Below w.heap.size w w' := by
  have c2 : w.cell? ⟨a, 2, none⟩ = some (.slice (some ⟨bk, 0, none⟩) Kp.akeys.length cap) := by simp [World.cell?, hA.blk]
  go_enter Tryz.func21, Tryz.ntmps21
  go_wp2
  go_loopw [6, 15] (fun m i wr => ∃ k : Nat, k ≤ s.size ∧ i = .int .i64 k ∧ m = .slice none 0 0 ∧ Below w.heap.size w wr) (fun _ i _ => s.size - (intOf i).toNat)
  case atStart => exact ⟨0, Nat.zero_le _, rfl, rfl, Below.refl _ _⟩
  case round =>
    obtain ⟨k, hkl, rfl, rfl, hb⟩ := hrel
    by_cases hlt : k < s.size
    · have hkk := hk k hlt
      go_wp2_with (go_at_call 46; refine (isKey_any _ _).mono ?_; rintro e w' ⟨rfl, rfl⟩)
      go_roundw
      case rel => exact ⟨k + 1, by omega, by go_num, rfl, hb⟩
      case measure => simp [intOf]; omega
    · go_wp2
      go_ret
      exact ⟨rfl, hb⟩
end Go.Proofs.YtmnbhjijphlanaaGreatDoor
