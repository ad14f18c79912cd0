/-
  Run; after: the state after a key.
-/
import Derived.Test.YtmnbhjijphlanaaGreatDoorStep
namespace Go.Proofs.YtmnbhjijphlanaaGreatDoor
open Go.RowKit Mp

set_option maxRecDepth 100000 in
set_option maxHeartbeats 1000000 in
theorem run_any (B0 a br bp bk cap : Nat) (PM : List (Kp.Bs × Bool)) (K : Kp.Bs) (o q : Kp.Bs) (w : World) (hA : AutoAt B0 w a br bp bk cap PM) (hB0 : B0 ≤ w.heap.size)
    (hK : ∀ c ∈ K, Kp.isKey c = true) (hs : K.length ≤ 1000) (hf : Kp.Feeds [] K o q) (hlen : o.length ≤ 100000) :
    Calls Tryz.prog 8 #[.pointer (some ⟨a, 0, none⟩), .string ⟨K.toArray⟩] w fun e w' => e = .returned (.tuple #[.string ⟨o.toArray⟩, .string ⟨q.toArray⟩]) ∧ Below w.heap.size w w' := by
  have hfeed := fun (W : World) (hW : Below (w.heap.size + 1) (w.alloc (.cells #[.pointer none, .slice none 0 0] 71)) W) =>
    feed_any B0 w.heap.size a w.heap.size br bp bk cap PM [] ⟨[].toArray⟩ ⟨K.toArray⟩ o q W (hA.below (((Below.refl w.heap.size w).alloc (Nat.le_refl _) _).trans (hW.mono (Nat.le_succ _))) hB0) hB0
      (by have := hW.size; simp at this; omega) (bld_below (Lib.fresh_isBuilder 71 5 w) (by simpa using hW)) hf (by simpa using hlen) (by simp [ByteArray.size]; omega)
  go_enter Tryz.func8, Tryz.ntmps8
  go_wp2_with (first
    | (go_at_call 24; refine (clean_keys K hK (by omega) _).mono ?_; rintro e w1 ⟨rfl, hb1⟩)
    | (go_at_call 23; refine (hfeed _ (by simpa using hb1)).mono ?_; rintro e w2 ⟨rfl, hB2, hb2⟩)
    | (go_at_call 25; refine (Tryz.Builder_String_any _ _ _ _ (by simpa using hB2) (by have s1 := hb1.size; have s2 := hb2.size; simp at s1; omega)).mono ?_; rintro e w3 ⟨rfl, hb3⟩))
  go_ret2
  exact ⟨rfl, (((Below.refl w.heap.size w).alloc (Nat.le_refl _) _).trans (hb1.mono (by simp))).trans (hb2.trans hb3)⟩

theorem hasPrefix_iff (l o : Kp.Bs) : Lib.hasPrefix l o = true ↔ o <+: l := by
  simp [Lib.hasPrefix]

set_option maxRecDepth 100000 in
set_option maxHeartbeats 1000000 in
/-- one key more, where what it writes is what follows -/
theorem after_yes (B0 a br bp bk cap : Nat) (PM : List (Kp.Bs × Bool)) (s : ByteArray) (x1 : Nat) (x2 : Kp.Bs) (c : UInt8) (o q : Kp.Bs) (w : World) (hA : AutoAt B0 w a br bp bk cap PM) (hB0 : B0 ≤ w.heap.size)
    (hP : Kp.part x2 = true) (hc : Kp.isKey c = true) (hf : Kp.Feeds x2 [c] o q) (hx : x1 ≤ s.size) (hs : s.size ≤ 100000) (hlen : o.length ≤ 100000) (hp : Lib.hasPrefix (s.data.toList.drop x1) o = true) :
    Calls Tryz.prog 22 #[.pointer (some ⟨a, 0, none⟩), .string s, .agg #[.int .i64 x1, .string ⟨x2.toArray⟩], .int .u8 c.toNat] w fun e w' => e = .returned (.tuple #[.agg #[.int .i64 ((x1 + o.length : Nat) : Int), .string ⟨q.toArray⟩], .bool true]) ∧ Below w.heap.size w w' := by
  obtain ⟨hP1, hP2⟩ := Kp.part_keys hP
  have hd := drop_data s x1
  have hpx := fun (W : World) => Tryz.strings_HasPrefix ⟨(s.data.toList.drop x1).toArray⟩ ⟨o.toArray⟩ W
  simp only [hp] at hpx
  go_enter Tryz.func22, Tryz.ntmps22
  go_wp2_with (go_at_call 31; refine (step_any B0 a br bp bk cap PM x2 c o q _ (hA.below (((Below.refl w.heap.size w).alloc (Nat.le_refl _) _).alloc (by simp) _) hB0) (by simp; omega) hP2 hc (by omega) hf hlen).mono ?_; rintro e w1 ⟨rfl, hb1⟩; obtain ⟨hc1, hf1⟩ := bcell hb1; have hz : w.heap.size + 1 < w1.heap.size := by have := hb1.size; simp at this; omega)
  go_wp2_with (go_at_call 47; refine (hpx _).mono ?_; rintro e w1 ⟨rfl, rfl⟩)
  have hB : Below w.heap.size w w1 := (((Below.refl w.heap.size w).alloc (Nat.le_refl _) _).alloc (by simp) _).trans (hb1.mono (by simp; omega))
  refine bodyPost_ret (v := .tuple #[.agg #[.int .i64 ((x1 + o.length : Nat) : Int), .string ⟨q.toArray⟩], .bool true]) ?_ rfl ⟨rfl, ?_⟩
  · simp [results, Tryz.results22, go_sem, hc1, hz]
  · exact (hB.setCell (by simp) _).setCell (by simp) _

set_option maxRecDepth 100000 in
set_option maxHeartbeats 1000000 in
/-- one key more, where what it writes is not what follows -/
theorem after_no (B0 a br bp bk cap : Nat) (PM : List (Kp.Bs × Bool)) (s : ByteArray) (x1 : Nat) (x2 : Kp.Bs) (c : UInt8) (o q : Kp.Bs) (w : World) (hA : AutoAt B0 w a br bp bk cap PM) (hB0 : B0 ≤ w.heap.size)
    (hP : Kp.part x2 = true) (hc : Kp.isKey c = true) (hf : Kp.Feeds x2 [c] o q) (hx : x1 ≤ s.size) (hs : s.size ≤ 100000) (hlen : o.length ≤ 100000) (hp : Lib.hasPrefix (s.data.toList.drop x1) o = false) :
    Calls Tryz.prog 22 #[.pointer (some ⟨a, 0, none⟩), .string s, .agg #[.int .i64 x1, .string ⟨x2.toArray⟩], .int .u8 c.toNat] w fun e w' => e = .returned (.tuple #[.agg #[.int .i64 0, .string ⟨#[]⟩], .bool false]) ∧ Below w.heap.size w w' := by
  obtain ⟨hP1, hP2⟩ := Kp.part_keys hP
  have hd := drop_data s x1
  have hpx := fun (W : World) => Tryz.strings_HasPrefix ⟨(s.data.toList.drop x1).toArray⟩ ⟨o.toArray⟩ W
  simp only [hp] at hpx
  go_enter Tryz.func22, Tryz.ntmps22
  go_wp2_with (go_at_call 31; refine (step_any B0 a br bp bk cap PM x2 c o q _ (hA.below (((Below.refl w.heap.size w).alloc (Nat.le_refl _) _).alloc (by simp) _) hB0) (by simp; omega) hP2 hc (by omega) hf hlen).mono ?_; rintro e w1 ⟨rfl, hb1⟩; obtain ⟨hc1, hf1⟩ := bcell hb1; have hz : w.heap.size + 1 < w1.heap.size := by have := hb1.size; simp at this; omega)
  go_wp2_with (go_at_call 47; refine (hpx _).mono ?_; rintro e w1 ⟨rfl, rfl⟩)
  have hB : Below w.heap.size w w1 := (((Below.refl w.heap.size w).alloc (Nat.le_refl _) _).alloc (by simp) _).trans (hb1.mono (by simp; omega))
  refine bodyPost_ret (v := .tuple #[.agg #[.int .i64 0, .string ⟨#[]⟩], .bool false]) ?_ rfl ⟨rfl, ?_⟩
  · simp [results, Tryz.results22, go_sem, hc1, hz]
  · exact (hB.setCell (by simp) _).setCell (by simp) _
end Go.Proofs.YtmnbhjijphlanaaGreatDoor
