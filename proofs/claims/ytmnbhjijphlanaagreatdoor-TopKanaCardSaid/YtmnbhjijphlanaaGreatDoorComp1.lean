/-
  compose: within (all bytes of a text are from low to 126), Check of a buffer.
-/
import Derived.Test.YtmnbhjijphlanaaGreatDoorRRun
import Derived.Test.YtmnbhjijphlanaaGreatDoorKana
import Derived.Laws.IdiomStrings
namespace Go.Proofs.YtmnbhjijphlanaaGreatDoor
open Go.RowKit Mp Go.Shelf Go.Lib

theorem within1_any (c low t : Nat) (w : World) (hc : w.cell? ⟨t, 0, none⟩ = some (.int .u8 low)) (h1 : low ≤ c) (h2 : c ≤ 126) :
    Calls Tryz.prog 76 #[.int .u8 c, .pointer (some ⟨t, 0, none⟩)] w fun e w' => e = .returned (.bool false) ∧ w = w' := by
  have hlow : (low : Int) ≤ 126 := by omega
  have g1 : ¬ (c : Int) < low := by omega
  have g2 : ¬ (126 : Int) < c := by omega
  go_enter Tryz.func76, Tryz.ntmps76
  go_wp2
  go_ret
  exact ⟨rfl, rfl⟩
/-- the bytes of l lie in block g -/
def BytesAt (w : World) (g : Nat) (l : Kp.Bs) : Prop := ∀ i, (h : i < l.length) → w.cell? ⟨g, i, none⟩ = some (.int .u8 (l[i].toNat : Nat))
theorem indexB_any (g cap low t : Nat) (l : Kp.Bs) (w : World) (hc : BytesAt w g l) (hlow : w.cell? ⟨t, 0, none⟩ = some (.int .u8 low)) (hl : l.length ≤ 1000000) (h : ∀ c ∈ l, low ≤ c.toNat ∧ c.toNat ≤ 126) :
    Calls Tryz.prog 96 #[.slice (some ⟨g, 0, none⟩) l.length cap, .func (.func 76) #[] #[.pointer (some ⟨t, 0, none⟩)]] w fun e w' => e = .returned (.int .i64 (-1)) ∧ w = w' := by
  go_enter Tryz.func96, Tryz.ntmps96
  go_wp2
  go_loopw [8] (fun i wr => ∃ k : Nat, k ≤ l.length ∧ i = .int .i64 k ∧ wr = w) (fun i _ => l.length - (intOf i).toNat)
  case atStart => exact ⟨0, Nat.zero_le _, rfl, rfl⟩
  case round =>
    obtain ⟨k, hkl, rfl, rfl⟩ := hrel
    by_cases hlt : k < l.length
    · obtain ⟨b1, b2⟩ := h l[k] (List.getElem_mem hlt)
      have hcell := hc k hlt
      generalize l[k].toNat = c at hcell b1 b2
      go_wp2_with (go_at_call 76; refine (within1_any c low t _ hlow b1 b2).mono ?_; rintro e w' ⟨rfl, rfl⟩)
      go_roundw
      case rel => exact ⟨k + 1, by omega, by go_num, trivial⟩
      case measure => simp [intOf]; omega
    · go_wp2
      go_ret
      exact ⟨rfl, rfl⟩
theorem containsB_any (g cap low t : Nat) (l : Kp.Bs) (w : World) (hc : BytesAt w g l) (hlow : w.cell? ⟨t, 0, none⟩ = some (.int .u8 low)) (hl : l.length ≤ 1000000) (h : ∀ c ∈ l, low ≤ c.toNat ∧ c.toNat ≤ 126) :
    Calls Tryz.prog 75 #[.slice (some ⟨g, 0, none⟩) l.length cap, .func (.func 76) #[] #[.pointer (some ⟨t, 0, none⟩)]] w fun e w' => e = .returned (.bool false) ∧ w = w' := by
  have hix := indexB_any g cap low t l w hc hlow hl h
  go_enter Tryz.func75, Tryz.ntmps75
  go_wp2_with (go_at_call 96; refine hix.mono ?_; rintro e w1 ⟨rfl, rfl⟩)
  go_ret
  exact ⟨rfl, rfl⟩
theorem bytesRow_at (l : Kp.Bs) (cap i : Nat) (h : i < l.length) : (bytesRow ⟨l.toArray⟩ cap)[i]? = some (.int .u8 (l[i].toNat : Nat)) := by
  unfold bytesRow
  rw [Array.getElem?_append_left (by simpa using h)]
  simp [h]
theorem within_any (l : Kp.Bs) (low : Nat) (w : World) (hl : l.length ≤ 1000000) (h : ∀ c ∈ l, low ≤ c.toNat ∧ c.toNat ≤ 126) :
    Calls Tryz.prog 52 #[.string ⟨l.toArray⟩, .int .u8 low] w fun e w' => e = .returned (.bool true) ∧ Below w.heap.size w w' := by
  have hconv := fun W : World => run_bytes_of_string (P := Tryz.prog) W 9 22 5 ⟨l.toArray⟩ Tryz.underlying9 Tryz.underlying22 Tryz.underlying5
  have hz : (⟨l.toArray⟩ : ByteArray).size = l.length := by simp [ByteArray.size]
  rw [hz] at hconv
  go_enter Tryz.func52, Tryz.ntmps52
  go_wp2_with fail
  refine (containsB_any (w.heap.size + 1) _ low w.heap.size l _ ?_ ?_ hl h).mono ?_
  · intro i hi
    have hn := alloc_new (w.alloc (.cells #[.int .u8 low] 5)) (.cells (bytesRow ⟨l.toArray⟩ (grownCap (w.alloc (Obj.cells #[Value.int IntKind.u8 ↑low] 5)) (List.length l) 0 5)) 5 ((bytesRow ⟨l.toArray⟩ (grownCap (w.alloc (Obj.cells #[Value.int IntKind.u8 ↑low] 5)) (List.length l) 0 5)).size, (bytesRow ⟨l.toArray⟩ (grownCap (w.alloc (Obj.cells #[Value.int IntKind.u8 ↑low] 5)) (List.length l) 0 5)).size + 1))
    rw [show (w.alloc (.cells #[.int .u8 low] 5)).heap.size = w.heap.size + 1 by simp] at hn
    refine (Lib.cell_of_heap hn i).trans ?_
    exact bytesRow_at l _ i hi
  · have hn := alloc_new w (.cells #[.int .u8 low] 5)
    rw [← Below.heap_alloc _ (.cells (bytesRow ⟨l.toArray⟩ (grownCap (w.alloc (Obj.cells #[Value.int IntKind.u8 ↑low] 5)) (List.length l) 0 5)) 5 ((bytesRow ⟨l.toArray⟩ (grownCap (w.alloc (Obj.cells #[Value.int IntKind.u8 ↑low] 5)) (List.length l) 0 5)).size, (bytesRow ⟨l.toArray⟩ (grownCap (w.alloc (Obj.cells #[Value.int IntKind.u8 ↑low] 5)) (List.length l) 0 5)).size + 1)) _ (by simp)] at hn
    exact (Lib.cell_of_heap hn 0).trans rfl
  · rintro e w1 ⟨rfl, rfl⟩
    go_wp2_with fail
    go_ret
    exact ⟨rfl, ((((Below.refl _ _).alloc (Nat.le_refl _) _).alloc (by simp) _).drew)⟩

abbrev It := Kp.Bs × Kp.Bs
/-- the cells of items -/
def cellsI (l : List It) : List Value := l.flatMap (fun x => [.string ⟨x.1.toArray⟩, .string ⟨x.2.toArray⟩])
theorem cellsI_length (l : List It) : (cellsI l).length = l.length * 2 := by
  induction l with
  | nil => rfl
  | cons x l ih => simp only [cellsI, List.flatMap_cons, List.length_append, List.length_cons, List.length_nil] at ih ⊢; omega
theorem cellsI_append (a b : List It) : cellsI (a ++ b) = cellsI a ++ cellsI b := by simp [cellsI]
theorem cellsI_at (l : List It) (j : Nat) (h : j < l.length) : (cellsI l)[j * 2]? = some (.string ⟨(l[j]).1.toArray⟩) ∧ (cellsI l)[j * 2 + 1]? = some (.string ⟨(l[j]).2.toArray⟩) := by
  induction l generalizing j with
  | nil => simp at h
  | cons x l ih =>
    cases j with
    | zero => simp [cellsI]
    | succ j =>
      obtain ⟨a, b⟩ := ih j (by simpa using h)
      have e0 : (j + 1) * 2 = j * 2 + 2 := by omega
      have e1 : (j + 1) * 2 + 1 = (j * 2 + 1) + 2 := by omega
      rw [e1, e0]
      simp only [cellsI, List.flatMap_cons, List.cons_append, List.nil_append, List.getElem?_cons_succ, List.getElem_cons_succ] at a b ⊢
      exact ⟨a, b⟩
/-- an item as this law meets it -/
def okItem (x : It) : Prop := (∀ c ∈ x.1, 32 ≤ c.toNat ∧ c.toNat ≤ 126) ∧ x.1.length ≤ 100 ∧ x.2 ∈ Kp.kanaL
theorem kana_count {c : Kp.Bs} (h : c ∈ Kp.kanaL) : Lib.validD c = true ∧ Lib.runeCount ⟨c.toArray⟩ = 1 ∧ c.length = 3 := ⟨(Kp.Kt.one h).valid, (Kp.Kt.one h).count, (Kp.kana_facts c h).1⟩
theorem slice_cell2 {w : World} {B e n : Nat} {ao : Option Addr} {c : Nat} {xs : List Value} (h : w.ownsRow B e 2 (.slice ao n c) n xs) (h0 : 0 < n) : ∃ g, ao = some ⟨g, 0, none⟩ ∧ B ≤ g ∧ g < w.heap.size ∧ ∀ j u, xs[j]? = some u → w.cell? ⟨g, j, none⟩ = some u := by
  rcases h.2 with ⟨hv, rfl⟩ | ⟨g, cap, cur, hv, _⟩
  · omega
  · cases hv
    have hlt := h.lt g rfl
    refine ⟨g, rfl, hlt.1, hlt.2, fun j u hj => ?_⟩
    rw [h.cellAt j (by have := (List.getElem?_eq_some_iff.1 hj).1; rw [h.1] at this; exact this)]
    exact hj

set_option maxRecDepth 100000 in
set_option maxHeartbeats 2000000 in
theorem bcheck_any (l : List It) (ao : Option Addr) (cap caret : Nat) (p : Kp.Bs) (w : World) (hT : Tabs w) (hv : w.ownsRow 0 90 2 (.slice ao l.length cap) l.length (cellsI l)) (hl : l.length ≤ 64) (hc : caret ≤ l.length) (hp : p.length ≤ 8)
    (hpk : ∀ c ∈ p, 33 ≤ c.toNat ∧ c.toNat ≤ 126) (hit : ∀ x ∈ l, okItem x) :
    Calls Tryz.prog 30 #[.agg #[.slice ao l.length cap, .int .i64 caret, .string ⟨p.toArray⟩]] w fun e w' => e = .returned (.int .i64 0) ∧ Below w.heap.size w w' := by
  have hsz : (⟨p.toArray⟩ : ByteArray).size = p.length := by simp [ByteArray.size]
  have hwi : ∀ W, Calls Tryz.prog 52 #[.string ⟨p.toArray⟩, .int .u8 33] W fun e w' => e = .returned (.bool true) ∧ Below W.heap.size W w' := fun W => within_any p 33 W (by omega) hpk
  have q1 : decide (64 < (l.length : Int)) = false := by simp; omega
  have q2 : decide ((caret : Int) < 0) = false := by simp
  have q3 : decide (l.length < caret) = false := by simp; omega
  have q4 : decide (8 < (p.length : Int)) = false := by simp; omega
  go_enter Tryz.func30, Tryz.ntmps30
  go_wp2_with fail
  refine (hwi _).mono ?_
  rintro e w1 ⟨rfl, hb1⟩
  have hb0 : Below w.heap.size w w1 := ((Below.refl _ _).alloc (Nat.le_refl _) _).trans (hb1.mono (by simp))
  have hcell : w1.cell? ⟨w.heap.size, 0, none⟩ = some (.slice ao l.length cap) := by
    rw [hb1.cell (p := ⟨w.heap.size, 0, none⟩) (by simp), Lib.cell_of_heap (alloc_new w _)]; rfl
  have hsz1 : w.heap.size < w1.heap.size := by have := hb1.size; simp at this; omega
  clear hb1 hwi
  go_wp2_with fail
  go_loopw [37] (fun i wr => ∃ k : Nat, k ≤ l.length ∧ i = .int .i64 k ∧ Below w.heap.size w wr) (fun i _ => l.length - (intOf i).toNat)
  case atStart => exact ⟨0, Nat.zero_le _, rfl, hb0⟩
  case round =>
    obtain ⟨k, hk, rfl, hb⟩ := hrel
    by_cases hlt : k < l.length
    · obtain ⟨g, rfl, -, hglt, hcells⟩ := slice_cell2 hv (by omega)
      obtain ⟨hc0, hc1⟩ := cellsI_at l k hlt
      have d0 := (hb.cell (p := ⟨g, k * 2, none⟩) hglt).trans (hcells _ _ hc0)
      have d1 := (hb.cell (p := ⟨g, k * 2 + 1, none⟩) hglt).trans (hcells _ _ hc1)
      obtain ⟨hx1, hx3, hx2⟩ := hit l[k] (List.getElem_mem hlt)
      generalize l[k] = x at d0 d1 hx1 hx2 hx3
      obtain ⟨x1, x2⟩ := x
      simp only at d0 d1 hx1 hx2 hx3
      obtain ⟨k1, k2, k3⟩ := kana_count hx2
      have hcnt : ∀ W, Below w.heap.size w W → Calls Tryz.prog 20 #[.string ⟨x2.toArray⟩] W fun e w' => e = .returned (.int .i64 1) ∧ Below W.heap.size W w' := fun W hW => by
        have h := count_any ⟨x2.toArray⟩ W (by simp [ByteArray.size]; omega) (Utf8Tabs_below hT hW) (by simpa using k1)
        rw [k2] at h
        exact h
      have hwi : ∀ W, Calls Tryz.prog 52 #[.string ⟨x1.toArray⟩, .int .u8 32] W fun e w' => e = .returned (.bool true) ∧ Below W.heap.size W w' := fun W => within_any x1 32 W (by omega) hx1
      have hwr := hb.size
      clear k1 k2 k3 hc0 hc1 hcells hit hx1 hx2
      go_wp2_with fail
      have hba : Below w.heap.size w (wr.alloc (.cells #[.string ⟨x1.toArray⟩, .string ⟨x2.toArray⟩] 90)) := hb.alloc hwr _
      have hbox := alloc_new wr (.cells #[.string ⟨x1.toArray⟩, .string ⟨x2.toArray⟩] 90)
      generalize wr.alloc (.cells #[.string ⟨x1.toArray⟩, .string ⟨x2.toArray⟩] 90) = W1 at hba hbox ⊢
      refine (hcnt W1 hba).mono ?_
      rintro e W2 ⟨rfl, hb2⟩
      have hW1 := (Array.getElem?_eq_some_iff.1 hbox).1
      have hbox2 := (hb2.block _ hW1).trans hbox
      have c0 : W2.cell? ⟨wr.heap.size, 0, none⟩ = some (.string ⟨x1.toArray⟩) := by rw [Lib.cell_of_heap hbox2]; rfl
      have hbw2 : Below w.heap.size w W2 := hba.trans (hb2.mono hba.size)
      clear hbox hbox2 hb2 hba d0 d1 hcnt
      go_wp2_with fail
      refine (hwi W2).mono ?_
      rintro e W3 ⟨rfl, hb3⟩
      have hbw3 : Below w.heap.size w W3 := hbw2.trans (hb3.mono hbw2.size)
      clear hb3 hbw2 hwi
      go_wp2_with fail
      go_roundw
      case rel => exact ⟨k + 1, by omega, by go_num, hbw3⟩
      case measure => simp [intOf]; omega
    · go_wp2_with fail
      go_ret
      exact ⟨rfl, hb⟩
end Go.Proofs.YtmnbhjijphlanaaGreatDoor
