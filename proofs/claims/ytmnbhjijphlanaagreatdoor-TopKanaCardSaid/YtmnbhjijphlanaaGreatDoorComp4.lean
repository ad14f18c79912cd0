/-
  compose: insert, Insert.
-/
import Derived.Test.YtmnbhjijphlanaaGreatDoorComp3
namespace Go.Proofs.YtmnbhjijphlanaaGreatDoor
open Go.RowKit Mp Go.Shelf Go.Lib

theorem elem38 : Tryz.prog.elem 38 = 90 := by kernel_rfl
theorem under38 : Tryz.prog.underlying 38 = some (.slice (Tryz.prog.elem 38)) := by rw [elem38]; exact Tryz.underlying38
theorem size90 (W : World) : (Go.sizeOf 90).run Tryz.prog W = .ok 2 W := by
  obtain ⟨i0, hi, hz0, hz1, hz2⟩ := info_parts info90
  simp [Go.sizeOf, typeInfo, hi, hz1]
theorem slice_pre (ao : Option Addr) (n cap : Nat) (h : n ≤ cap) (W : World) : (Instr.slice 38 (.slice ao n cap) none (some (.int .i64 n)) none).run Tryz.prog W = .ok (.slice ao n cap) W := by
  rw [run_slice_h W 38 ao n cap under38 .i64 n (by omega) (by omega), elem38, size90]
  have e : (if cap = 0 then ao else ao.map (fun a => a.add 0)) = ao := by
    split
    · rfl
    · cases ao <;> simp [Addr.add]
  simp [Result.andThen, sliced]
  simpa using e
def postA (ao : Option Addr) (n cap : Nat) : Option Addr := if cap = n then ao else ao.map (fun a => a.add (n * 2))
theorem postA_none (ao : Option Addr) (n cap : Nat) (h : ao = none → cap = 0) : postA ao n cap = none → cap - n = 0 := by
  unfold postA
  intro e
  split at e
  · omega
  · cases ao with
    | none => have := h rfl; omega
    | some a => simp at e
theorem slice_post (ao : Option Addr) (n cap : Nat) (W : World) : (Instr.slice 38 (.slice ao n cap) (some (.int .i64 n)) none none).run Tryz.prog W = .ok (.slice (postA ao n cap) 0 (cap - n)) W := by
  rw [run_slice_l W 38 ao n cap under38 .i64 n (by omega) (by omega), elem38, size90]
  simp [Result.andThen, sliced, postA]

theorem row_slice {w : World} {B e z n : Nat} {v : Value} {xs : List Value} (h : w.ownsRow B e z v n xs) : ∃ ao c, v = .slice ao n c := by
  rcases h.2 with ⟨rfl, rfl⟩ | ⟨g, cap, cur, rfl, _⟩
  · exact ⟨_, _, rfl⟩
  · exact ⟨_, _, rfl⟩
def three {α : Type} (a b c : α) : Nat → α
  | 0 => a
  | 1 => b
  | _ => c
set_option maxRecDepth 100000 in
set_option maxHeartbeats 2000000 in
theorem insert_any (l m : List It) (ao am : Option Addr) (cap cm : Nat) (p : Kp.Bs) (w : World) (hv : w.ownsRow 0 90 2 (.slice ao l.length cap) l.length (cellsI l)) (hm : w.ownsRow 0 90 2 (.slice am m.length cm) m.length (cellsI m)) (hl : l.length + m.length ≤ 64) :
    Calls Tryz.prog 33 #[.agg #[.slice ao l.length cap, .int .i64 l.length, .string ⟨p.toArray⟩], .slice am m.length cm] w fun e w' => ∃ v, e = .returned (.tuple #[.agg #[v, .int .i64 (l.length + m.length : Nat), .string ⟨p.toArray⟩], .bool true]) ∧ w'.ownsRow w.heap.size 90 2 v (l.length + m.length) (cellsI (l ++ m)) ∧ Below w.heap.size w w' := by
  have q1 : decide ((64 : Int) < (l.length : Int) + m.length) = false := by simp; omega
  have hcap : l.length ≤ cap ∧ (ao = none → cap = 0) := by
    rcases hv.2 with ⟨hv', h0⟩ | ⟨g, c2, cur, hv', _, _, h3, _⟩
    · simp only [Value.slice.injEq] at hv'; omega
    · simp only [Value.slice.injEq] at hv'
      obtain ⟨e1, -, e2⟩ := hv'
      refine ⟨by omega, fun e => ?_⟩
      rw [e1] at e; cases e
  obtain ⟨hcap1, hcap2⟩ := hcap
  have hs1 := slice_pre ao l.length cap hcap1
  have hs2 := slice_post ao l.length cap
  have hpa := postA_none ao l.length cap hcap2
  generalize postA ao l.length cap = ap at hs2 hpa
  have HP := Lib.hid hpa
  have sl := Src.of_row hv
  have sm := Src.of_row hm
  clear hpa hcap2 hv hm
  go_enter Tryz.func33, Tryz.ntmps33
  go_wp2_with fail
  have hb0 : Below w.heap.size w ((w.alloc (.cells #[.slice ao l.length cap, .int .i64 l.length, .string ⟨p.toArray⟩] 40)).alloc (.cells #[.slice none 0 0, .int .i64 0, .string ⟨#[]⟩] 40)) := ((Below.refl _ _).alloc (Nat.le_refl _) _).alloc (by simp) _
  have hB : ((w.alloc (.cells #[.slice ao l.length cap, .int .i64 l.length, .string ⟨p.toArray⟩] 40)).alloc (.cells #[.slice none 0 0, .int .i64 0, .string ⟨#[]⟩] 40)).heap[w.heap.size]? = some (.cells #[.slice ao l.length cap, .int .i64 l.length, .string ⟨p.toArray⟩] 40 (0, 0)) := by
    rw [Below.heap_alloc _ _ _ (by simp)]; exact alloc_new w _
  have hR : ((w.alloc (.cells #[.slice ao l.length cap, .int .i64 l.length, .string ⟨p.toArray⟩] 40)).alloc (.cells #[.slice none 0 0, .int .i64 0, .string ⟨#[]⟩] 40)).heap[w.heap.size + 1]? = some (.cells #[.slice none 0 0, .int .i64 0, .string ⟨#[]⟩] 40 (0, 0)) := by
    have h := alloc_new (w.alloc (.cells #[.slice ao l.length cap, .int .i64 l.length, .string ⟨p.toArray⟩] 40)) (.cells #[.slice none 0 0, .int .i64 0, .string ⟨#[]⟩] 40)
    simpa using h
  generalize (w.alloc (.cells #[.slice ao l.length cap, .int .i64 l.length, .string ⟨p.toArray⟩] 40)).alloc (.cells #[.slice none 0 0, .int .i64 0, .string ⟨#[]⟩] 40) = W at hb0 hB hR ⊢
  have c0 : W.cell? ⟨w.heap.size, 0, none⟩ = some (.slice ao l.length cap) := by rw [Lib.cell_of_heap hB]; rfl
  have c1 : W.cell? ⟨w.heap.size, 1, none⟩ = some (.int .i64 l.length) := by rw [Lib.cell_of_heap hB]; rfl
  go_still_tail 11, (by kernel_rfl)
  change wpList _ _ _ _ _ W.drew
  go_wp2_with fail
  have hsW := hb0.size
  have hltB := (Array.getElem?_eq_some_iff.1 hB).1
  have hltR := (Array.getElem?_eq_some_iff.1 hR).1
  have hbX : Below W.heap.size W (W.alloc (Obj.cells #[Value.slice ao l.length cap, Value.slice am m.length cm, Value.slice ap 0 (cap - l.length)] 38)).drew := ((Below.refl _ _).alloc (Nat.le_refl _) _).drew
  have hX : (W.alloc (Obj.cells #[Value.slice ao l.length cap, Value.slice am m.length cm, Value.slice ap 0 (cap - l.length)] 38)).drew.heap[W.heap.size]? = some (Obj.cells #[Value.slice ao l.length cap, Value.slice am m.length cm, Value.slice ap 0 (cap - l.length)] 38 (0, 0)) := alloc_new W _
  have hXs : W.heap.size < (W.alloc (Obj.cells #[Value.slice ao l.length cap, Value.slice am m.length cm, Value.slice ap 0 (cap - l.length)] 38)).drew.heap.size := (Array.getElem?_eq_some_iff.1 hX).1
  generalize (W.alloc (Obj.cells #[Value.slice ao l.length cap, Value.slice am m.length cm, Value.slice ap 0 (cap - l.length)] 38)).drew = X at hbX hX hXs ⊢
  refine (concat_any W.heap.size (three ao am ap) (three l.length m.length 0) (three cap cm (cap - l.length)) (three (cellsI l) (cellsI m) []) X ?_ ?_ ?_).mono ?_
  · intro k hk
    rw [Lib.cell_of_heap hX]
    match k, hk with
    | 0, _ => rfl
    | 1, _ => rfl
    | 2, _ => rfl
  · intro k hk
    match k, hk with
    | 0, _ => exact (sl.later hb0).later hbX
    | 1, _ => exact (sm.later hb0).later hbX
    | 2, _ => exact Src.empty X ap _ HP.out
  · show 0 + l.length + m.length + 0 ≤ 10000; omega
  · rintro e w3 ⟨v, rfl, hown, hb3⟩
    have hn3 : cum (three l.length m.length 0) 3 = l.length + m.length := by show 0 + l.length + m.length + 0 = _; omega
    have hx3 : catX (three (cellsI l) (cellsI m) []) 3 = cellsI (l ++ m) := by show [] ++ cellsI l ++ cellsI m ++ [] = _; simp [cellsI]
    rw [hn3, hx3] at hown
    have hbA : Below W.heap.size W w3 := hbX.trans (hb3.mono (by omega))
    have hB3 := (hbA.block _ hltB).trans hB
    have hR3 := (hbA.block _ hltR).trans hR
    have hbw : Below w.heap.size w w3 := hb0.trans (hbA.mono hsW)
    have hown' := row_base hown (show w.heap.size + 2 ≤ X.heap.size by omega)
    have hsum : ((l.length : Int) + m.length) = ((l.length + m.length : Nat) : Int) := by omega
    have hll := hl
    generalize hN : l.length + m.length = N at hown' hsum
    have HN := Lib.hid hN
    clear hN
    clear hn3 hx3 hown hb3 hbX hX hXs hbA hb0 sl sm hs1 hs2 HP q1 c0 c1 hB hR
    obtain ⟨av, cv, rfl⟩ := row_slice hown'
    have hne : (Value.slice av N cv).ownBlock ≠ some w.heap.size ∧ (Value.slice av N cv).ownBlock ≠ some (w.heap.size + 1) := ⟨fun e => by have := (hown'.lt _ e).1; omega, fun e => by have := (hown'.lt _ e).1; omega⟩
    have c0 : w3.cell? ⟨w.heap.size, 0, none⟩ = some (.slice ao l.length cap) := by rw [Lib.cell_of_heap hB3]; rfl
    have c1 : w3.cell? ⟨w.heap.size, 1, none⟩ = some (.int .i64 l.length) := by rw [Lib.cell_of_heap hB3]; rfl
    have c2 : w3.cell? ⟨w.heap.size, 2, none⟩ = some (.string ⟨p.toArray⟩) := by rw [Lib.cell_of_heap hB3]; rfl
    have d0 : w3.cell? ⟨w.heap.size + 1, 0, none⟩ = some (.slice none 0 0) := by rw [Lib.cell_of_heap hR3]; rfl
    have d1 : w3.cell? ⟨w.heap.size + 1, 1, none⟩ = some (.int .i64 0) := by rw [Lib.cell_of_heap hR3]; rfl
    have d2 : w3.cell? ⟨w.heap.size + 1, 2, none⟩ = some (.string ⟨#[]⟩) := by rw [Lib.cell_of_heap hR3]; rfl
    have f0 : ∀ j, w3.frozen? ⟨w.heap.size, j, none⟩ = false := fun j => Lib.frozen_of_heap hB3 j
    have f1 : ∀ j, w3.frozen? ⟨w.heap.size + 1, j, none⟩ = false := fun j => Lib.frozen_of_heap hR3 j
    go_wp2_with fail
    refine bodyPost_ret (v := .tuple #[.agg #[.slice av N cv, .int .i64 N, .string ⟨p.toArray⟩], .bool true]) (by simp [results, Tryz.results33, go_sem, c0, c1, c2, d0, d1, d2]) rfl ?_
    rw [HN.out]
    refine ⟨_, rfl, ?_, ?_⟩
    · refine ownsRow_setCell_other (ownsRow_setCell_other (ownsRow_setCell_other (ownsRow_setCell_other (ownsRow_setCell_other (row_base hown' (by omega)) hne.1 _) hne.1 _) hne.2 _) hne.2 _) hne.2 _
    · exact ((((hbw.setCell (p := ⟨w.heap.size, 0, none⟩) (by simp) _).setCell (p := ⟨w.heap.size, 1, none⟩) (by simp) _).setCell (p := ⟨w.heap.size + 1, 0, none⟩) (by simp) _).setCell (p := ⟨w.heap.size + 1, 1, none⟩) (by simp) _).setCell (p := ⟨w.heap.size + 1, 2, none⟩) (by simp) _
end Go.Proofs.YtmnbhjijphlanaaGreatDoor
