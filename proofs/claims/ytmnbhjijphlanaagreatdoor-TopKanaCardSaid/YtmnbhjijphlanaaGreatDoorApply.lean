/-
  The specification of layer 6 over the rules of the document: apply, feed, Run.
-/
import Derived.Test.YtmnbhjijphlanaaGreatDoorBegin
namespace Go.Proofs.YtmnbhjijphlanaaGreatDoor
open Go.RowKit Mp Go.Shelf Go.Lib

theorem begin_short (s : Kp.Bs) : ∀ n r, n ≤ s.length → beginN s n = some r → r.keys.length ≤ s.length ∧ r.next.length ≤ 4
  | 0, _, _, h => by cases h
  | n + 1, r, hn, h => by
    unfold beginN at h
    cases hf : Kp.find (s.take (n + 1)) with
    | none => rw [hf] at h; exact begin_short s n r (by omega) h
    | some x =>
      rw [hf] at h
      obtain rfl : x = r := by simpa using h
      have h1 := Kp.find_some hf
      have h2 := Kp.rules_next x h1.1
      refine ⟨?_, by omega⟩
      rw [h1.2, List.length_take]
      omega
theorem resolve_begin (s : Kp.Bs) : Kp.resolve s = match beginN s s.length with | some r => (r.out, r.next ++ s.drop r.keys.length) | none => (s.take 1, s.drop 1) := begin_resolve s s.length (Nat.le_refl _)

set_option maxRecDepth 100000 in
set_option maxHeartbeats 2000000 in
theorem apply_any (g cap : Nat) (s : Kp.Bs) (hs : s.length ≤ 100000) (h0 : 0 < s.length) (w : World) (hR : RowAt w g) :
    Calls Tryz.prog 51 #[.slice (some ⟨g, 0, none⟩) 162 cap, .string ⟨s.toArray⟩] w fun e w' => e = .returned (.tuple #[.string ⟨(Kp.resolve s).1.toArray⟩, .string ⟨(Kp.resolve s).2.toArray⟩]) ∧ Below w.heap.size w w' := by
  have hsz : (⟨s.toArray⟩ : ByteArray).size = s.length := by simp [ByteArray.size]
  have hcon := begin_any g cap s hs w hR
  rw [resolve_begin]
  cases hb : beginN s s.length with
  | none =>
    rw [hb] at hcon
    simp only [ruV, Option.getD_none, Option.isSome_none] at hcon
    have hs1 : ∀ W : World, (Instr.slice 9 (.string ⟨s.toArray⟩) none (some (.int .i64 1)) none).run Tryz.prog W = .ok (.string ⟨(s.take 1).toArray⟩) W := fun W => by
      rw [run_slice_string_h (P := Tryz.prog) W 9 _ Tryz.underlying9 .i64 1 (by omega) (by rw [hsz]; omega)]
      rw [show ((⟨s.toArray⟩ : ByteArray).extract 0 (1 : Int).toNat) = ⟨(s.take 1).toArray⟩ from ByteArray.ext (Array.toList_inj.1 (by simp))]
    have hs2 : ∀ W : World, (Instr.slice 9 (.string ⟨s.toArray⟩) (some (.int .i64 1)) none none).run Tryz.prog W = .ok (.string ⟨(s.drop 1).toArray⟩) W := fun W => by
      rw [run_slice_string_l (P := Tryz.prog) W 9 _ Tryz.underlying9 .i64 1 (by omega) (by rw [hsz]; omega), drop_data]
      rfl
    go_enter Tryz.func51, Tryz.ntmps51
    go_wp2_with (go_at_call 74; refine hcon.mono ?_; rintro e w2 ⟨rfl, hb2⟩)
    go_quiet (fail)
    go_wp2_with fail
    go_ret2
    exact ⟨by simp, below_drewN (hb2.alloc hb2.size _) _⟩
  | some r =>
    rw [hb] at hcon
    simp only [ruV, Option.getD_some, Option.isSome_some] at hcon
    obtain ⟨hkl, hnl⟩ := begin_short s s.length r (Nat.le_refl _) hb
    have hsk : (⟨r.keys.toArray⟩ : ByteArray).size = r.keys.length := by simp [ByteArray.size]
    have hs2 : ∀ W : World, (Instr.slice 9 (.string ⟨s.toArray⟩) (some (.int .i64 r.keys.length)) none none).run Tryz.prog W = .ok (.string ⟨(s.drop r.keys.length).toArray⟩) W := fun W => by
      rw [run_slice_string_l (P := Tryz.prog) W 9 _ Tryz.underlying9 .i64 (r.keys.length : Int) (by omega) (by rw [hsz]; omega), Int.toNat_natCast, drop_data]
    have hadd := fun W => add_strs W r.next (s.drop r.keys.length) (by omega) (by simp; omega)
    go_enter Tryz.func51, Tryz.ntmps51
    go_wp2_with (go_at_call 74; refine hcon.mono ?_; rintro e w2 ⟨rfl, hb2⟩)
    go_quiet (fail)
    go_wp2_with fail
    go_ret2
    exact ⟨by simp, below_drewN (hb2.alloc hb2.size _) _⟩
end Go.Proofs.YtmnbhjijphlanaaGreatDoor
