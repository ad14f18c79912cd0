/-
  The specification of layer 6 over the rules of the document: Find, Longer.
-/
import Derived.Test.YtmnbhjijphlanaaGreatDoorNew
namespace Go.Proofs.YtmnbhjijphlanaaGreatDoor
open Go.RowKit Mp Go.Shelf Go.Lib

theorem ret_cell {a b : Value} {x y : Bool} (h1 : a = b) (h2 : x = y) : Ending.returned (.tuple #[a, .bool x]) = .returned (.tuple #[b, .bool y]) := by rw [h1, h2]
set_option maxRecDepth 100000 in
set_option maxHeartbeats 2000000 in
theorem find_any (g cap : Nat) (s : Kp.Bs) (w : World) (hR : RowAt w g) :
    Calls Tryz.prog 95 #[.slice (some ⟨g, 0, none⟩) 162 cap, .string ⟨s.toArray⟩] w fun e w' => e = .returned (.tuple #[ruV ((Kp.find s).getD ⟨[], [], []⟩), .bool (Kp.find s).isSome]) ∧ Below w.heap.size w w' := by
  go_enter Tryz.func95, Tryz.ntmps95
  go_wp2_with fail
  go_loopw [6] (fun i wr => ∃ k : Nat, k ≤ 162 ∧ i = .int .i64 k ∧ wr = w.alloc (.cells #[.string ⟨#[]⟩, .string ⟨#[]⟩, .string ⟨#[]⟩] 60) ∧ Kp.find s = (Kp.rules.drop k).find? (fun r => r.keys == s)) (fun i _ => 162 - (intOf i).toNat)
  case atStart => exact ⟨0, Nat.zero_le _, rfl, rfl, rfl⟩
  case round =>
    obtain ⟨k, hkl, rfl, rfl, hf⟩ := hrel
    have hbl : Below w.heap.size w (w.alloc (.cells #[.string ⟨#[]⟩, .string ⟨#[]⟩, .string ⟨#[]⟩] 60)) := (Below.refl _ _).alloc (Nat.le_refl _) _
    have hglt := hR.lt
    have hR1 := hR.below hbl
    by_cases hlt : k < 162
    · have hlt' : k < Kp.rules.length := by rw [Kp.rules_len]; exact hlt
      obtain ⟨hc0, hc1, hc2⟩ := cellsR_at Kp.rules k hlt'
      have d0 := hR1 _ _ hc0
      have d1 := hR1 _ _ hc1
      have d2 := hR1 _ _ hc2
      rw [List.drop_eq_getElem_cons hlt', List.find?_cons] at hf
      generalize Kp.rules[k] = r at hc0 hc1 hc2 d0 d1 d2 hf
      cases hb : r.keys == s with
      | true =>
        rw [hb] at hf
        go_wp2_with fail
        refine bodyPost_ret (v := .tuple #[.agg #[.string ⟨r.keys.toArray⟩, .string ⟨r.out.toArray⟩, .string ⟨r.next.toArray⟩], .bool true]) (by simp [results, Tryz.results95, go_sem]) rfl ⟨by first | rfl | (rw [hf]; rfl), (Below.refl _ _).alloc (Nat.le_refl _) _⟩
      | false =>
        rw [hb] at hf
        go_wp2_with fail
        go_roundw
        case rel => exact ⟨k + 1, by omega, by go_num, trivial, hf⟩
        case measure => simp [intOf]; omega
    · rw [List.drop_of_length_le (by rw [Kp.rules_len]; omega)] at hf
      go_wp2_with fail
      refine bodyPost_ret (v := .tuple #[.agg #[.string ⟨#[]⟩, .string ⟨#[]⟩, .string ⟨#[]⟩], .bool false]) (by simp [results, Tryz.results95, go_sem]) rfl ⟨by first | rfl | (rw [hf]; rfl), (Below.refl _ _).alloc (Nat.le_refl _) _⟩

set_option maxRecDepth 100000 in
set_option maxHeartbeats 2000000 in
theorem longer_any (g cap : Nat) (s : Kp.Bs) (w : World) (hR : RowAt w g) (hs : s.length ≤ 100000) :
    Calls Tryz.prog 50 #[.slice (some ⟨g, 0, none⟩) 162 cap, .string ⟨s.toArray⟩] w fun e w' => e = .returned (.bool (Kp.part s)) ∧ w' = w := by
  go_enter Tryz.func50, Tryz.ntmps50
  go_wp2_with fail
  go_loopw [5] (fun i wr => ∃ k : Nat, k ≤ 162 ∧ i = .int .i64 k ∧ wr = w ∧ Kp.part s = (Kp.rules.drop k).any (fun r => decide (s.length < r.keys.length) && r.keys.take s.length == s)) (fun i _ => 162 - (intOf i).toNat)
  case atStart => exact ⟨0, Nat.zero_le _, rfl, rfl, rfl⟩
  case round =>
    obtain ⟨k, hkl, rfl, rfl, hf⟩ := hrel
    by_cases hlt : k < 162
    · have hlt' : k < Kp.rules.length := by rw [Kp.rules_len]; exact hlt
      have d0 := hR _ _ (cellsR_at Kp.rules k hlt').1
      have hshort := (Kp.rules_next _ (List.getElem_mem hlt')).2
      rw [List.drop_eq_getElem_cons hlt', List.any_cons] at hf
      generalize Kp.rules[k] = r at d0 hf hshort
      have hsz : (⟨r.keys.toArray⟩ : ByteArray).size = r.keys.length := by simp [ByteArray.size]
      have hsz2 : (⟨s.toArray⟩ : ByteArray).size = s.length := by simp [ByteArray.size]
      by_cases hl : s.length < r.keys.length
      · have hsl : ∀ W : World, (Instr.slice 9 (.string ⟨r.keys.toArray⟩) none (some (.int .i64 s.length)) none).run Tryz.prog W = .ok (.string ⟨(r.keys.take s.length).toArray⟩) W := fun W => by
          rw [run_slice_string_h (P := Tryz.prog) W 9 _ Tryz.underlying9 .i64 (s.length : Int) (by omega) (by rw [hsz]; omega)]
          rw [show ((⟨r.keys.toArray⟩ : ByteArray).extract 0 (s.length : Int).toNat) = ⟨(r.keys.take s.length).toArray⟩ from ByteArray.ext (Array.toList_inj.1 (by simp))]
        rw [decide_eq_true hl, Bool.true_and] at hf
        generalize r.keys.take s.length = t at hsl hf
        cases hb : t == s with
        | true =>
          rw [hb, Bool.true_or] at hf
          go_wp2_with fail
          go_ret
          exact ⟨ret_bool hf.symm, rfl⟩
        | false =>
          rw [hb, Bool.false_or] at hf
          go_wp2_with fail
          go_roundw
          case rel => exact ⟨k + 1, by omega, by go_num, trivial, hf⟩
          case measure => simp [intOf]; omega
      · rw [decide_eq_false hl, Bool.false_and, Bool.false_or] at hf
        go_wp2_with fail
        go_roundw
        case rel => exact ⟨k + 1, by omega, by go_num, trivial, hf⟩
        case measure => simp [intOf]; omega
    · rw [List.drop_of_length_le (by rw [Kp.rules_len]; omega)] at hf
      go_wp2_with fail
      go_ret
      exact ⟨ret_bool hf.symm, rfl⟩
end Go.Proofs.YtmnbhjijphlanaaGreatDoor
