/-
  The specification of layer 6 over the rules of the document: feed, Run.
-/
import Derived.Test.YtmnbhjijphlanaaGreatDoorApply
import Derived.Test.YtmnbhjijphlanaaGreatDoorFeed
namespace Go.Proofs.YtmnbhjijphlanaaGreatDoor
open Go.RowKit Mp Go.Shelf Go.Lib

theorem slice_first (k : UInt8) (K : Kp.Bs) (W : World) : (Instr.slice 9 (.string ⟨(k :: K).toArray⟩) none (some (.int .i64 1)) none).run Tryz.prog W = .ok (.string ⟨#[k]⟩) W := by
  have hsz : (⟨(k :: K).toArray⟩ : ByteArray).size = K.length + 1 := by simp [ByteArray.size]
  rw [run_slice_string_h (P := Tryz.prog) W 9 _ Tryz.underlying9 .i64 1 (by omega) (by rw [hsz]; omega)]
  rw [show ((⟨(k :: K).toArray⟩ : ByteArray).extract 0 (1 : Int).toNat) = ⟨#[k]⟩ from ByteArray.ext (Array.toList_inj.1 (by simp))]
theorem slice_rest (k : UInt8) (K : Kp.Bs) (W : World) : (Instr.slice 9 (.string ⟨(k :: K).toArray⟩) (some (.int .i64 1)) none none).run Tryz.prog W = .ok (.string ⟨K.toArray⟩) W := by
  have hsz : (⟨(k :: K).toArray⟩ : ByteArray).size = K.length + 1 := by simp [ByteArray.size]
  rw [run_slice_string_l (P := Tryz.prog) W 9 _ Tryz.underlying9 .i64 1 (by omega) (by rw [hsz]; omega), drop_data]
  rfl
set_option maxRecDepth 100000 in
set_option maxHeartbeats 2000000 in
theorem rfeed_any (g cap : Nat) (p ks o q : Kp.Bs) (w : World) (hR : RowAt w g) (hf : Kp.Feeds p ks o q) (hlen : o.length ≤ 100000) (hs : p.length + ks.length ≤ 1000) :
    Calls Tryz.prog 26 #[.slice (some ⟨g, 0, none⟩) 162 cap, .string ⟨p.toArray⟩, .string ⟨ks.toArray⟩] w fun e w' => e = .returned (.tuple #[.string ⟨o.toArray⟩, .string ⟨q.toArray⟩]) ∧ Below w.heap.size w w' := by
  go_enter Tryz.func26, Tryz.ntmps26
  go_wp2_with fail
  go_loopw [1, 2, 8] (fun v2 v3 v8 wr => ∃ P K O1 O2 : Kp.Bs, v2 = .string ⟨P.toArray⟩ ∧ v3 = .string ⟨K.toArray⟩ ∧ v8 = .string ⟨O1.toArray⟩ ∧ o = O1 ++ O2 ∧ Kp.Feeds P K O2 q ∧ P.length + K.length ≤ 1000 ∧ Below w.heap.size w wr) (fun v2 v3 _ _ => Kp.mu (strOf v2) (strOf v3))
  case atStart => exact ⟨p, ks, [], o, rfl, rfl, rfl, rfl, hf, hs, Below.refl _ _⟩
  case round =>
    obtain ⟨P, K, O1, O2, rfl, rfl, rfl, hO, hF, hl, hb⟩ := hrel
    have hR1 := hR.below hb
    cases hF with
    | nil =>
      go_wp2_with fail
      go_ret2
      exact ⟨by simp [hO], hb⟩
    | @push _ k K' _ _ hp hF =>
      have hl' : P.length + (K'.length + 1) ≤ 1000 := hl
      have e1 := slice_first k K'
      have e2 := slice_rest k K'
      have e3 := fun W => add_strs W P [k] (by omega) (by simp)
      have hlo := longer_any g cap (P ++ [k]) wr hR1 (by simp; omega)
      rw [hp] at hlo
      have ne : (k :: K' == []) = false := rfl
      go_wp2_with (go_at_call 50; refine hlo.mono ?_; rintro e w2 ⟨rfl, rfl⟩)
      go_roundw
      case rel => exact ⟨P ++ [k], K', O1, O2, rfl, rfl, rfl, hO, hF, by simp; omega, hb⟩
      case measure => simpa [strOf] using Kp.mu_push P k K'
    | @res _ k K' O2 _ hp hF =>
      have hl' : P.length + (K'.length + 1) ≤ 1000 := hl
      have e1 := slice_first k K'
      have e2 := slice_rest k K'
      have e3 := fun W => add_strs W P [k] (by omega) (by simp)
      have hlo := longer_any g cap (P ++ [k]) wr hR1 (by simp; omega)
      rw [hp] at hlo
      have hap := apply_any g cap (P ++ [k]) (by simp; omega) (by simp) wr hR1
      have hres := Kp.resolve_lt (P ++ [k]) (by simp)
      have q5 : (Kp.resolve (P ++ [k])).2.length ≤ P.length := by simp at hres; omega
      have hol : O1.length ≤ 100000 ∧ (Kp.resolve (P ++ [k])).1.length ≤ 100000 := by
        have := congrArg List.length hO
        simp at this
        omega
      have hmu := Kp.mu_res P k K'
      clear hres
      generalize hr1 : (Kp.resolve (P ++ [k])).1 = r1 at *
      generalize hr2 : (Kp.resolve (P ++ [k])).2 = r2 at *
      have e4 := fun W => add_strs W O1 r1 hol.1 hol.2
      have e5 := fun W => add_strs W r2 K' (by omega) (by omega)
      clear hr1 hr2
      have HO := Lib.hid hO
      clear hO
      go_wp2_with (first
        | (go_at_call 50; refine hlo.mono ?_; rintro e w2 ⟨rfl, rfl⟩)
        | (go_at_call 51; refine hap.mono ?_; rintro e w3 ⟨rfl, hb3⟩))
      go_roundw
      case rel => exact ⟨[], r2 ++ K', O1 ++ r1, O2, rfl, rfl, rfl, by rw [HO.out]; simp, hF, by simp; omega, hb.trans (hb3.mono hb.size)⟩
      case measure => simpa [strOf] using hmu
end Go.Proofs.YtmnbhjijphlanaaGreatDoor
