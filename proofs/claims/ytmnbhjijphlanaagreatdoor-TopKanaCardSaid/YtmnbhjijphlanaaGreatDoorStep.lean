/-
  Step: one key more.
-/
import Derived.Test.YtmnbhjijphlanaaGreatDoorFeed
import Derived.Deep.DeepCutAuto
import Derived.Deep.RegionWith
namespace Go.Proofs.YtmnbhjijphlanaaGreatDoor
open Go.RowKit Mp

theorem clean_keys (l : Kp.Bs) (hl : ∀ c ∈ l, Kp.isKey c = true) (hs : l.length ≤ 1000000) (w : World) : Calls Tryz.prog 24 #[.string ⟨l.toArray⟩] w fun e w' => e = .returned (.string ⟨l.toArray⟩) ∧ Below w.heap.size w w' := by
  have h := clean_any ⟨l.toArray⟩ (by simpa [ByteArray.size] using hs) w
  rwa [show ((⟨l.toArray⟩ : ByteArray).data.toList.filter Kp.isKey) = l from List.filter_eq_self.2 hl] at h

theorem bcell {W w1 : World} (hb : Below W.heap.size W w1) : (∀ b o, b < W.heap.size → w1.cell? ⟨b, o, none⟩ = W.cell? ⟨b, o, none⟩) ∧ (∀ b o, b < W.heap.size → w1.frozen? ⟨b, o, none⟩ = W.frozen? ⟨b, o, none⟩) :=
  ⟨fun b o h => hb.cell (p := ⟨b, o, none⟩) h, fun b o h => hb.frozen (p := ⟨b, o, none⟩) h⟩
theorem chainA {w w1 w2 : World} {o o2 : Obj} (hb1 : Below (w.alloc o).drew.heap.size (w.alloc o).drew w1) (hb2 : Below (w1.alloc o2).heap.size (w1.alloc o2) w2) : Below (w.heap.size + 1) (w.alloc o) w2 := by
  have s1 := hb1.size
  simp at s1
  exact (((Below.refl _ _).drew.trans (hb1.mono (by simp))).alloc s1 o2).trans (hb2.mono (by simp; omega))
theorem chainB {w w1 w2 : World} {o o2 : Obj} (hb1 : Below ((w.alloc o).alloc o2).drew.heap.size ((w.alloc o).alloc o2).drew w1) (hb2 : Below w1.heap.size w1 w2) : Below (w.heap.size + 1) (w.alloc o) w2 := by
  have s1 := hb1.size
  simp at s1
  exact ((((Below.refl _ _).alloc (by simp) o2).drew).trans (hb1.mono (by simp))).trans (hb2.mono (by omega))
theorem conv1 (W : World) (g : Nat) (c : UInt8) (h : W.cell? ⟨g, 0, none⟩ = some (.int .u8 c.toNat)) : (convert 22 9 (.slice (some ⟨g, 0, none⟩) 1 1)).run Tryz.prog W = .ok (.string ⟨#[c]⟩) W := by
  have := run_convert_bytes_arg (P := Tryz.prog) (w := W) 22 5 Tryz.underlying22 Tryz.underlying5 g 0 1 1 [(c.toNat : Int)] rfl (fun i hi => by
    obtain rfl : i = 0 := by omega
    simpa using h) 9 Tryz.underlying9
  rw [this]
  simp [strOfNums]

set_option maxRecDepth 100000 in
set_option maxHeartbeats 1000000 in
theorem step_any (B0 a br bp bk cap : Nat) (PM : List (Kp.Bs × Bool)) (P : Kp.Bs) (c : UInt8) (o q : Kp.Bs) (w : World) (hA : AutoAt B0 w a br bp bk cap PM) (hB0 : B0 ≤ w.heap.size)
    (hP : ∀ c ∈ P, Kp.isKey c = true) (hc : Kp.isKey c = true) (hs : P.length ≤ 100) (hf : Kp.Feeds P [c] o q) (hlen : o.length ≤ 100000) :
    Calls Tryz.prog 31 #[.pointer (some ⟨a, 0, none⟩), .string ⟨P.toArray⟩, .int .u8 c.toNat] w fun e w' => e = .returned (.tuple #[.string ⟨o.toArray⟩, .string ⟨q.toArray⟩]) ∧ Below w.heap.size w w' := by
  have hcv := fun W g => conv1 W g c
  have hfeed := fun (W : World) (hW : Below (w.heap.size + 1) (w.alloc (.cells #[.pointer none, .slice none 0 0] 71)) W) =>
    feed_any B0 w.heap.size a w.heap.size br bp bk cap PM [] ⟨P.toArray⟩ ⟨[c].toArray⟩ o q W (hA.below (((Below.refl w.heap.size w).alloc (Nat.le_refl _) _).trans (hW.mono (Nat.le_succ _))) hB0) hB0
      (by have := hW.size; simp at this; omega) (bld_below (Lib.fresh_isBuilder 71 5 w) (by simpa using hW)) hf (by simpa using hlen) (by simp [ByteArray.size]; omega)
  go_enter Tryz.func31, Tryz.ntmps31
  go_upto_region 4 with fail
  go_cut [7] (fun s7 wx => s7 = .string ⟨q.toArray⟩ ∧ Lib.IsBuilder 71 5 w.heap.size w.heap.size (Lib.byteCells o) wx ∧ Below w.heap.size w wx)
  case first =>
    go_region_with (first
      | (go_at_call_of 24 (Value.string ⟨P.toArray⟩); refine (clean_keys P hP (by omega) _).mono ?_; rintro e w1 ⟨rfl, hb1⟩; obtain ⟨hc1, hf1⟩ := bcell hb1)
      | (go_at_call 24; refine (clean_keys [c] (by simpa using hc) (by simp) _).mono ?_; rintro e w2 ⟨rfl, hb2⟩)
      | (go_at_call 23; refine (hfeed _ (by first | exact chainA hb1 hb2 | exact chainB hb1 hb2)).mono ?_; rintro e w3 ⟨rfl, hB3, hb3⟩))
    all_goals
      have hw : Below w.heap.size w w2 := ((Below.refl w.heap.size w).alloc (Nat.le_refl _) _).trans (Below.mono (by first | exact chainA hb1 hb2 | exact chainB hb1 hb2) (Nat.le_succ _))
      go_wp2_with fail
      go_meet
      exact ⟨rfl, by simpa using hB3, hw.trans hb3⟩
  case rest =>
    obtain ⟨rfl, hB, hb⟩ := hcut
    go_wp2_with (go_at_call 25; refine (Tryz.Builder_String_any _ _ _ _ hB hb.size).mono ?_; rintro e w' ⟨rfl, hb'⟩)
    go_ret2
    exact ⟨rfl, hb.trans hb'⟩
end Go.Proofs.YtmnbhjijphlanaaGreatDoor
