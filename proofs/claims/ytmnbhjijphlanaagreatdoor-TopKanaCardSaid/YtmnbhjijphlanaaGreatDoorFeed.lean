/-
  feed: keys are fed to the automaton.
-/
import Derived.Test.YtmnbhjijphlanaaGreatDoorAuto1
namespace Go.Proofs.YtmnbhjijphlanaaGreatDoor
open Go.RowKit Mp

def strOf : Value → Kp.Bs | .string s => s.data.toList | _ => []

theorem AutoAt.lookPart' {B : Nat} {w : World} {a br bp bk cap : Nat} {PM : List (Kp.Bs × Bool)} (h : AutoAt B w a br bp bk cap PM) {l : Kp.Bs} {v : Bool} (hv : Kp.part l = v) :
    (Instr.lookup 48 (.map (some bp)) (.string ⟨l.toArray⟩) false).run Tryz.prog w = .ok (.bool v) w := by
  rw [h.lookPart ⟨l.toArray⟩, ← hv]
theorem first_of (P K : Kp.Bs) (k : UInt8) : ((⟨P.toArray⟩ : ByteArray) ++ (⟨(k :: K).toArray⟩ : ByteArray).extract 0 1) = ⟨(P ++ [k]).toArray⟩ := by
  have : (⟨(k :: K).toArray⟩ : ByteArray).extract 0 1 = ⟨[k].toArray⟩ := by
    apply ByteArray.ext
    simp
  rw [this, ByteArray.mk_append_mk]
theorem rest_of (K : Kp.Bs) (k : UInt8) : (⟨(k :: K).toArray⟩ : ByteArray).extract 1 (K.length + 1) = ⟨K.toArray⟩ := by
  have := drop_data ⟨(k :: K).toArray⟩ 1
  simpa [ByteArray.size] using this
theorem cells_append (bs : List Value) (a b : Kp.Bs) : bs ++ Lib.byteCells (a ++ b) = bs ++ Lib.byteCells a ++ Lib.byteCells b := by simp [Lib.byteCells]

set_option maxRecDepth 100000 in
set_option maxHeartbeats 1000000 in
theorem feed_any (B0 B a b br bp bk cap : Nat) (PM : List (Kp.Bs × Bool)) (bs : List Value) (p ks : ByteArray) (o q : Kp.Bs) (w : World) (hA : AutoAt B0 w a br bp bk cap PM) (hB0 : B0 ≤ B) (hBw : B ≤ w.heap.size) (h : Lib.IsBuilder 71 5 B b bs w)
    (hf : Kp.Feeds p.data.toList ks.data.toList o q) (hlen : bs.length + o.length ≤ 100000) (hs : p.size + ks.size ≤ 1000) :
    Calls Tryz.prog 23 #[.pointer (some ⟨a, 0, none⟩), .pointer (some ⟨b, 0, none⟩), .string p, .string ks] w fun e w' => e = .returned (.string ⟨q.toArray⟩) ∧
      Lib.IsBuilder 71 5 B b (bs ++ Lib.byteCells o) w' ∧ Below B w w' := by
  go_enter Tryz.func23, Tryz.ntmps23
  go_wp2
  go_loopw [2, 3] (fun v2 v3 wr => ∃ P K O1 O2 : Kp.Bs, v2 = .string ⟨P.toArray⟩ ∧ v3 = .string ⟨K.toArray⟩ ∧ o = O1 ++ O2 ∧ Kp.Feeds P K O2 q ∧ P.length + K.length ≤ 1000 ∧ Lib.IsBuilder 71 5 B b (bs ++ Lib.byteCells O1) wr ∧ Below B w wr) (fun v2 v3 _ => Kp.mu (strOf v2) (strOf v3))
  case atStart => exact ⟨p.data.toList, ks.data.toList, [], o, by rw [str_eta], by rw [str_eta], rfl, hf, by simpa using hs, by simpa [Lib.byteCells] using h, Below.refl _ _⟩
  case round =>
    obtain ⟨P, K, O1, O2, rfl, rfl, hO, hF, hl, hB, hb⟩ := hrel
    have hA' := hA.below hb hB0
    obtain ⟨hle1, hle2, hle3, hle4⟩ := hA.le
    have c1 : wr.cell? ⟨a, 1, none⟩ = some (.map (some bp)) := by simp [World.cell?, hA'.blk]
    cases hF with
    | nil =>
      go_wp2
      go_ret
      exact ⟨rfl, by simpa [hO] using hB, hb⟩
    | @push _ k K' _ _ hp hF =>
      have e1 := first_of P K' k
      have e2 := rest_of K' k
      have hlk := fun n => (hA'.below (B' := B) (below_drewN (Below.refl _ wr) n) hB0).lookPart' hp
      have hl' : P.length + (K'.length + 1) ≤ 1000 := hl
      go_wp2
      go_quiet (fail)
      go_wp2
      go_roundw
      case rel => exact ⟨P ++ [k], K', O1, O2, rfl, rfl, hO, hF, by simp; omega, bld_below hB (below_drewN (Below.refl _ _) _), below_drewN hb _⟩
      case measure => simpa [strOf] using Kp.mu_push P k K'
    | @res _ k K' O2 _ hp hF =>
      have e1 := first_of P K' k
      have e2 := rest_of K' k
      have hlk := fun n => (hA'.below (B' := B) (below_drewN (Below.refl _ wr) n) hB0).lookPart' hp
      have hl' : P.length + (K'.length + 1) ≤ 1000 := hl
      go_wp2
      go_quiet (fail)
      have hBr : B ≤ wr.heap.size := by have := hb.size; omega
      have q2 : (bs ++ Lib.byteCells O1).length ≤ 100000 := by
        have := congrArg List.length hO
        simp [Lib.byteCells] at this ⊢; omega
      have q3 : 0 < (⟨(P ++ [k]).toArray⟩ : ByteArray).size := by simp [ByteArray.size]
      have q4 : (⟨(P ++ [k]).toArray⟩ : ByteArray).size ≤ 1000 := by simp [ByteArray.size]; omega
      have hres := Kp.resolve_lt (P ++ [k]) (by simp)
      have q5 : (Kp.resolve (P ++ [k])).2.length ≤ P.length := by simp at hres; omega
      clear hres
      have HO := Lib.hid hO
      clear hO
      go_wp2_with (go_at_call 48; refine (resolve_any B0 B a b br bp bk cap PM _ _ _ (hA'.below (B' := B) (below_drewN (Below.refl _ wr) _) hB0) hB0 hBr (bld_below hB (below_drewN (Below.refl _ _) _)) q2 q3 q4).mono ?_)
      rintro _ w1 rfl hB1 hb1 hk1
      go_wp2
      go_roundw
      case rel =>
        refine ⟨[], (Kp.resolve (P ++ [k])).2 ++ K', O1 ++ (Kp.resolve (P ++ [k])).1, O2, rfl, by rw [ByteArray.mk_append_mk], by rw [HO.out]; simp, hF, by simp; omega, ?_, (below_drewN hb _).trans hb1⟩
        rw [cells_append]
        simpa using hB1
      case measure => simpa [strOf] using Kp.mu_res P k K'
end Go.Proofs.YtmnbhjijphlanaaGreatDoor
