/-
  The rules of the document, as Default builds them: the closure that appends a rule, and the one that compares two.
-/
import Derived.Test.YtmnbhjijphlanaaGreatDoorCmp
import Derived.OneCell
import Derived.Shelf.SlSortCmp.NoneTotal
import Derived.Test.YtmnbhjijphlanaaGreatDoorShelf
namespace Go.Proofs.YtmnbhjijphlanaaGreatDoor
open Go.RowKit Mp Go.Shelf Go.Sort

/-- a rule's three cells -/
def cellsR (rs : List Kp.Rl) : List Value := rs.flatMap (fun r => [strV r.keys, strV r.out, strV r.next])
theorem cellsR_length (rs : List Kp.Rl) : (cellsR rs).length = rs.length * 3 := by
  induction rs with
  | nil => rfl
  | cons r rs ih => simp [cellsR] at ih ⊢; omega
theorem cellsR_snoc (rs : List Kp.Rl) (r : Kp.Rl) : cellsR (rs ++ [r]) = cellsR rs ++ [strV r.keys, strV r.out, strV r.next] := by simp [cellsR]

/-- the captured slice of rules -/
def OutIs (B c : Nat) (rs : List Kp.Rl) (w : World) : Prop :=
  ∃ v, w.heap[c]? = some (.cells #[v] 27 (0, 0)) ∧ w.ownsRow B 53 3 v rs.length (cellsR rs) ∧ v.ownBlock ≠ some c

theorem info53 : (Tryz.prog.info? 53).map (fun i => (i.zero, i.size, i.bytes)) = some (some (.agg #[.string ⟨#[]⟩, .string ⟨#[]⟩, .string ⟨#[]⟩]), 3, 48) := by kernel_rfl
theorem row_kind3 {w : World} {B : Nat} {v : Value} {n : Nat} {xs : List Value} (h : w.ownsRow B 53 3 v n xs) : ∀ g, v.ownBlock = some g → ∃ c fz, w.heap[g]? = some (.cells c 53 fz) := by
  intro g hg
  rcases h.2 with ⟨rfl, _⟩ | ⟨g', cap, cur, rfl, _, hgg, _⟩
  · simp [Value.ownBlock] at hg
  · simp only [Value.ownBlock, Option.some.injEq] at hg
    subst hg
    exact ⟨_, _, hgg⟩
theorem three_one (a b c : ByteArray) : ∀ u ∈ [Value.string a, Value.string b, Value.string c], u.oneCell' = true := by
  intro u hu
  simp only [List.mem_cons, List.not_mem_nil, or_false] at hu
  rcases hu with rfl | rfl | rfl <;> rfl
theorem three_new (wj : World) (a b c : Value) : ∀ j u, [a, b, c][j]? = some u → (wj.alloc (.cells #[a, b, c] 53)).cell? ((⟨wj.heap.size, 0, none⟩ : Addr).add j) = some u := by
  intro j u h
  match j with
  | 0 => simp at h; subst h; simp [Addr.add]
  | 1 => simp at h; subst h; simp [Addr.add]
  | 2 => simp at h; subst h; simp [Addr.add]
  | j + 3 => simp at h

set_option maxHeartbeats 1000000 in
set_option maxRecDepth 100000 in
theorem add_any (B c : Nat) (rs : List Kp.Rl) (k o n : List UInt8) (w : World) (h : OutIs B c rs w) (hl : rs.length ≤ 1000) (hBc : B ≤ c) (hBw : B ≤ w.heap.size) :
    Calls Tryz.prog 14 #[.string ⟨k.toArray⟩, .string ⟨o.toArray⟩, .string ⟨n.toArray⟩, .pointer (some ⟨c, 0, none⟩)] w fun e w' => e = .returned (.tuple #[]) ∧ OutIs B c (rs ++ [⟨k, o, n⟩]) w' ∧ Below B w w' ∧ Lib.OthersKept 53 (some c) w w' := by
  obtain ⟨v, hc, hown, hne⟩ := h
  obtain ⟨i0, hi, hz0, hz1, hz2⟩ := info_parts info53
  have c0 : w.cell? ⟨c, 0, none⟩ = some v := by rw [Lib.cell_of_heap hc]; rfl
  have hlt : c < w.heap.size := (Array.getElem?_eq_some_iff.1 hc).1
  go_enter Tryz.func14, Tryz.ntmps14
  go_wp2_with (at_builtin; refine wpList_append_own _ rfl (.tmp 7) (.tmp 12) 27 rfl B 53 i0 (.agg #[.string ⟨#[]⟩, .string ⟨#[]⟩, .string ⟨#[]⟩]) 3 48 Tryz.underlying27 hi hz0 hz1 hz2 rfl (by decide) v rs.length (cellsR rs) rfl (hown.alloc _) ⟨w.heap.size, 0, none⟩ 1 1 [.string ⟨k.toArray⟩, .string ⟨o.toArray⟩, .string ⟨n.toArray⟩] rfl rfl (three_new w _ _ _) (three_one _ _ _) (by unfold maxLen; omega) (by omega) (by simp; omega) ?_)
  intro v' w2 hown' hgrow _
  have hgrow2 := (World.grownBy_alloc w (.cells #[.string ⟨k.toArray⟩, .string ⟨o.toArray⟩, .string ⟨n.toArray⟩] 53) v.ownBlock).trans hgrow
  have hb2 : w2.heap[c]? = some (.cells #[v] 27 (0, 0)) := (hgrow2.block c hlt (fun e => hne e.symm)).trans hc
  have f1 : w2.frozen? ⟨c, 0, none⟩ = false := Lib.frozen_of_heap hb2 0
  have d0 : w2.cell? ⟨c, 0, none⟩ = some v := by rw [Lib.cell_of_heap hb2]; rfl
  have hne' : v'.ownBlock ≠ some c := by
    intro e
    obtain ⟨cc, fz, hk⟩ := row_kind3 hown' c e
    rw [hb2] at hk
    simp at hk
  obtain ⟨g, cap, rfl⟩ : ∃ g cap, v' = .slice (some ⟨g, 0, none⟩) (rs.length + 1) cap := by
    rcases hown'.2 with ⟨_, h0⟩ | ⟨g, cap, cur, hv, _⟩
    · omega
    · exact ⟨g, cap, hv⟩
  go_wp2
  go_end0
  refine ⟨rfl, ⟨_, ?_, ?_, hne'⟩, ?_, ?_⟩
  · simp [World.setCell, Array.getElem?_modify, hb2]
  · refine ownsRow_setCell_other ?_ (by simpa using hne') _
    simpa [cellsR_snoc, strV] using hown'
  · exact ((Below.refl B w).grown hgrow2 hBw (fun k hk => (hown.lt k hk).1)).setCell (p := ⟨c, 0, none⟩) hBc _
  · exact ((Lib.OthersKept.refl 53 (some c) w).grown hgrow2 (row_kind3 hown)).setCell ⟨c, 0, none⟩ rfl _

/-- the closure that compares two rules by their keys: two blocks are laid -/
theorem cmp_any (x y : Kp.Rl) (W : World) : Calls Tryz.prog 18 #[.agg #[strV x.keys, strV x.out, strV x.next], .agg #[strV y.keys, strV y.out, strV y.next]] W fun e w' => e = .returned (.int .i64 (cmpB x.keys y.keys)) ∧ ∃ q os', w' = grow (W.drewN q) os' := by
  have hcon := fun W' => compare_any x.keys y.keys W'
  generalize cmpB x.keys y.keys = r at hcon ⊢
  unfold strV
  go_enter Tryz.func18, Tryz.ntmps18
  go_wp2_with (go_at_call 19; refine (hcon _).mono ?_; rintro e w' ⟨rfl, rfl⟩)
  go_ret
  exact ⟨rfl, 0, _, by rw [alloc_eq_grow, alloc_eq_grow, grow_grow]; rfl⟩
end Go.Proofs.YtmnbhjijphlanaaGreatDoor
