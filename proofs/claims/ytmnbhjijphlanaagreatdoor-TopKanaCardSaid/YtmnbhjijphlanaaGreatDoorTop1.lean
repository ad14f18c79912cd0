/-
  Type at a text of kana, and at one that is too long; Run; for the law.
-/
import Derived.Test.YtmnbhjijphlanaaGreatDoorKana2
import Derived.Test.YtmnbhjijphlanaaGreatDoorKanaF
import Derived.Test.YtmnbhjijphlanaaGreatDoorComp6
import Derived.Test.YtmnbhjijphlanaaGreatDoorType
namespace Go.Proofs.YtmnbhjijphlanaaGreatDoor
open Go.RowKit Mp Go.Shelf Go.Lib

theorem kt_count (s : Kp.Bs) (cs : List Kp.Bs) (w : World) (h : Kp.Kt s cs) (hl : cs.length ≤ 1000) (hT : Tabs w) :
    Calls Tryz.prog 20 #[.string ⟨s.toArray⟩] w fun e w' => e = .returned (.int .i64 cs.length) ∧ Below w.heap.size w w' := by
  have hs := h.len
  have hc := count_any ⟨s.toArray⟩ w (by simp [ByteArray.size]; omega) hT (by simpa using h.valid)
  rw [h.count] at hc
  exact hc
/-- Type at a text of at most 64 kana that the keys W write -/
theorem type_kt (B0 a br bp bk cap : Nat) (PM : List (Kp.Bs × Bool)) (s W : Kp.Bs) (cs : List Kp.Bs) (w : World) (hA : AutoAt B0 w a br bp bk cap PM) (hB0 : B0 ≤ w.heap.size) (hT : Tabs w) (h : Kp.Kt s cs) (hl : cs.length ≤ 64) (hW : Kp.Feeds [] W s []) (hWA : ∀ c ∈ W, c ∈ Kp.akeys) (hWl : W.length ≤ 1000) :
    Calls Tryz.prog 7 #[.pointer (some ⟨a, 0, none⟩), .string ⟨s.toArray⟩] w fun e w' => ∃ k : Kp.Bs, e = .returned (.tuple #[.string ⟨k.toArray⟩, .bool true]) ∧ k.length ≤ W.length ∧ Kp.Feeds [] k s [] ∧ (∀ c ∈ k, Kp.isKey c = true) ∧ Below w.heap.size w w' := by
  have hs := h.len
  have hd : (⟨s.toArray⟩ : ByteArray).data.toList = s := by simp
  have hz : (⟨s.toArray⟩ : ByteArray).size = s.length := by simp [ByteArray.size]
  have ht := type_any B0 a br bp bk cap PM ⟨s.toArray⟩ cs.length W w hA hB0 (by omega) (by omega) (kt_count s cs w h (by omega) hT) (by omega)
    (fun i hi => h.noKey _ (by
      have h1 : (⟨s.toArray⟩ : ByteArray)[i] = s[i]'(by omega) := rfl
      rw [h1]
      exact List.getElem_mem _)) (by rw [hd]; exact hW) hWA (by omega)
  rw [hd] at ht
  exact ht
set_option maxRecDepth 100000 in
set_option maxHeartbeats 2000000 in
theorem type_long (a : Nat) (s : Kp.Bs) (cs : List Kp.Bs) (w : World) (h : Kp.Kt s cs) (hT : Tabs w) (hl : cs.length ≤ 1000) (h64 : 64 < cs.length) :
    Calls Tryz.prog 7 #[.pointer (some ⟨a, 0, none⟩), .string ⟨s.toArray⟩] w fun e w' => e = .returned (.tuple #[.string ⟨#[]⟩, .bool false]) ∧ Below w.heap.size w w' := by
  have hc := kt_count s cs w h hl hT
  generalize cs.length = n at hc hl h64
  have q1 : decide ((n : Int) < 0) = false := by simp
  have q2 : decide ((64 : Int) < n) = true := by simp; omega
  go_enter Tryz.func7, Tryz.ntmps7
  go_wp2_with (go_at_call 20; refine hc.mono ?_; rintro e w1 ⟨rfl, hb1⟩)
  go_ret2
  exact ⟨rfl, hb1⟩
end Go.Proofs.YtmnbhjijphlanaaGreatDoor
