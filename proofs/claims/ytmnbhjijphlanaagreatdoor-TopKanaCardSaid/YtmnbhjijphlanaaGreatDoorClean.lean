/-
  isKey and clean: the keys of a string, without other bytes.
-/
import Derived.Test.YtmnbhjijphlanaaGreatDoorBld
import Derived.Test.YtmnbhjijphlanaaGreatDoorShelf
import Derived.Outline
import Derived.IntWalk
import Derived.Lib.Hide
import Derived.BigQuiet
import Derived.Deep.QuietTactic
import Derived.Deep.RegionHeld3
import Derived.StillTailTactics
namespace Go.Proofs.YtmnbhjijphlanaaGreatDoor
open Go.RowKit

theorem ret_bool {a b : Bool} (h : a = b) : Ending.returned (.bool a) = .returned (.bool b) := by rw [h]
theorem ret_str {a b : List UInt8} (h : a = b) : Ending.returned (.string ⟨a.toArray⟩) = .returned (.string ⟨b.toArray⟩) := by rw [h]

theorem isKey_any (c : UInt8) (w : World) : Calls Tryz.prog 46 #[.int .u8 c.toNat] w fun e w' => e = .returned (.bool (Kp.isKey c)) ∧ w = w' := by
  have h : (c.toNat : Int) ≤ 255 := by have := c.toNat_lt; omega
  by_cases h1 : 32 < (c.toNat : Int)
  · go_enter Tryz.func46, Tryz.ntmps46
    go_wp2
    go_ret
    refine ⟨ret_bool ?_, rfl⟩
    rw [Bool.eq_iff_iff]; simp [Kp.isKey]; omega
  · go_enter Tryz.func46, Tryz.ntmps46
    go_wp2
    go_ret
    refine ⟨ret_bool ?_, rfl⟩
    rw [Bool.eq_iff_iff]; simp [Kp.isKey]; omega

theorem filter_snoc (s : ByteArray) (k : Nat) (h : k < s.size) : (s.data.toList.take (k + 1)).filter Kp.isKey = (s.data.toList.take k).filter Kp.isKey ++ if Kp.isKey s[k] then [s[k]] else [] := by
  rw [List.take_succ_eq_append_getElem (by simpa using h), List.filter_append]
  congr 1
  show List.filter Kp.isKey [s[k]] = _
  by_cases hk : Kp.isKey s[k] <;> simp [hk]

set_option maxHeartbeats 400000 in
theorem clean_any (s : ByteArray) (hs : s.size ≤ 1000000) (w : World) : Calls Tryz.prog 24 #[.string s] w fun e w' => e = .returned (.string ⟨(s.data.toList.filter Kp.isKey).toArray⟩) ∧ Below w.heap.size w w' := by
  go_enter Tryz.func24, Tryz.ntmps24
  go_wp2
  go_loopw [7] (fun i wr => ∃ k : Nat, k ≤ s.size ∧ i = .int .i64 k ∧ Lib.IsBuilder 71 5 w.heap.size w.heap.size (Lib.byteCells ((s.data.toList.take k).filter Kp.isKey)) wr ∧ Below w.heap.size w wr) (fun i _ => s.size - (intOf i).toNat)
  case atStart => exact ⟨0, Nat.zero_le _, rfl, Lib.fresh_isBuilder 71 5 w, (Below.refl _ _).alloc (Nat.le_refl _) _⟩
  case round =>
    obtain ⟨k, hk, rfl, hB, hb⟩ := hrel
    have hsz := hb.size
    have hlen : (Lib.byteCells ((s.data.toList.take k).filter Kp.isKey)).length ≤ k := by
      simp only [Lib.byteCells, List.length_map]
      exact Nat.le_trans (List.length_filter_le _ _) (List.length_take_le _ _)
    by_cases hlt : k < s.size
    · have HS := Lib.hid (filter_snoc s k hlt)
      go_wp2_with (first | (go_at_call 46; refine (isKey_any _ _).mono ?_; rintro e w' ⟨rfl, rfl⟩) | (go_at_call 49; refine (writeByte_any _ _ _ _ _ hB (by omega) (by omega)).mono ?_; rintro e w' ⟨rfl, hB', hb', _⟩))
      · have hc : Kp.isKey s[k] = true := by assumption
        go_roundw
        case rel =>
          refine ⟨k + 1, by omega, by go_num, ?_, hb.trans hb'⟩
          rw [HS.out, hc]
          simp only [Lib.byteCells, if_true, List.map_append, List.map_cons, List.map_nil]
          exact .inr hB'
        case measure => simp [intOf]; omega
      · have hc : Kp.isKey s[k] = false := by assumption
        go_roundw
        case rel =>
          refine ⟨k + 1, by omega, by go_num, ?_, hb⟩
          rw [HS.out, hc]
          simpa using hB
        case measure => simp [intOf]; omega
    · go_wp2_with (go_at_call 25; refine (Tryz.Builder_String_any _ _ _ _ hB (by omega)).mono ?_; rintro e w' ⟨rfl, hb'⟩)
      go_ret
      exact ⟨ret_str (by rw [List.take_of_length_le (by simp; omega)]), hb.trans hb'⟩
end Go.Proofs.YtmnbhjijphlanaaGreatDoor
