/-
  slices.SortFunc at the rules of the document.
-/
import Derived.Test.YtmnbhjijphlanaaGreatDoorDflt
namespace Go.Proofs.YtmnbhjijphlanaaGreatDoor
open Go.RowKit Mp Go.Shelf Go.Sort

theorem enc_len (i : Fin 162) : (Dflt.enc i).length = 3 := rfl
theorem enc_one (i : Fin 162) : ∀ v ∈ Dflt.enc i, v.oneCell' = true := three_one _ _ _
theorem cmpLaysR (blk off size : Nat) (w : World) : CmpLays Tryz.prog 18 #[] Dflt.enc 3 Dflt.cf blk off size w :=
  fun _ _ _ _ x y => cmp_any (Dflt.rl x) (Dflt.rl y) _

theorem cells_get : ∀ (l : List (Fin 162)) (j : Nat), j < l.length * 3 → (cellsR (l.map Dflt.rl))[j]? = some ((Dflt.enc (l.toArray[j / 3]!))[j % 3]!)
  | [], j, h => by simp at h
  | a :: l, 0, _ => by simp [cellsR, Dflt.enc]
  | a :: l, 1, _ => by simp [cellsR, Dflt.enc]
  | a :: l, 2, _ => by simp [cellsR, Dflt.enc]
  | a :: l, j + 3, h => by
    have h' : j < l.length * 3 := by simp at h; omega
    have e1 : (j + 3) / 3 = j / 3 + 1 := by omega
    have e2 : (j + 3) % 3 = j % 3 := by omega
    have e3 : (a :: l).toArray[j / 3 + 1]! = l.toArray[j / 3]! := by simp
    have ih := cells_get l j h'
    rw [e1, e2, e3, ← ih]
    simp [cellsR]
theorem holds_row {w : World} {B g cap : Nat} {l : List (Fin 162)} (h : w.ownsRow B 53 3 (.slice (some ⟨g, 0, none⟩) l.length cap) l.length (cellsR (l.map Dflt.rl))) : HoldsK Dflt.enc 3 w g 0 l.toArray := by
  intro j hj
  have hj' : j < l.length * 3 := by simpa using hj
  rw [get_flatK _ _ _ _ (by simpa using hj'), Nat.zero_add, h.cellAt j hj', cells_get l j hj']
  exact ⟨rfl, h.frozenAt j⟩

theorem grown_sort {w : World} {g : Nat} {d : Array (Fin 162)} {n : Nat} {os : Array Obj} : w.grownBy (sortWorldK Dflt.enc 3 w g 0 n d os) (some g) := by
  refine ⟨rfl, rfl, rfl, ?_, ?_⟩
  · simp [sortWorldK, putRowK, putRow, mapBlock, Sort.ahead]
  · intro k hk hne
    have hne' : g ≠ k := fun e => hne (by rw [e])
    simp [sortWorldK, putRowK, putRow, mapBlock, Sort.ahead, grow, Array.getElem?_append, hk, Array.getElem_modify, hne']

theorem sort_any (B g cap : Nat) (w : World) (h : w.ownsRow B 53 3 (.slice (some ⟨g, 0, none⟩) 162 cap) 162 (cellsR Dflt.unsorted)) :
    Calls Tryz.prog 17 #[.slice (some ⟨g, 0, none⟩) 162 cap, .func (.func 18) #[] #[]] w fun e w' => e = .returned (.tuple #[]) ∧ w.grownBy w' (some g) ∧ ∀ j u, (cellsR Kp.rules)[j]? = some u → w'.cell? ⟨g, j, none⟩ = some u := by
  have eg : ∀ args w, (callFunc 18 args).run Tryz.prog w = .ok (.enter 18 args) w := enters_of Tryz.func18 (by kernel_rfl) rfl
  have hl : Dflt.idx.length = 162 := by decide +kernel
  have hH : HoldsK Dflt.enc 3 w g 0 Dflt.idx.toArray := holds_row (B := B) (cap := cap) (by rw [hl, ← Dflt.unsorted_is]; exact h)
  have hlt := (h.lt g rfl).2
  have hcon := AnyQ.slices_SortFunc_total Tryz.sortR 3 Tryz.isAgg53 Tryz.sizeOf53 Dflt.enc enc_len enc_one Dflt.cf Dflt.swo 18 #[] g 0 cap Dflt.idx.toArray w eg (cmpLaysR g 0 _ w) hH hlt (by simp [hl]) (fun x y h1 h2 => by
    rw [Dflt.lt_is] at h1 h2; simp at h1 h2; omega)
  rw [Dflt.sorted_is, List.size_toArray, hl] at hcon
  refine Calls.mono hcon ?_
  rintro e w' ⟨rfl, n, os, rfl⟩
  refine ⟨rfl, grown_sort, ?_⟩
  intro j u hj
  have hrl : Kp.rules = (List.finRange 162).map Dflt.rl := by decide +kernel
  have hlen : j < (List.finRange 162).length * 3 := by
    have h1 := (List.getElem?_eq_some_iff.1 hj).1
    rw [cellsR_length, hrl] at h1
    simpa using h1
  have h2 := holdsK_grow Dflt.enc 3 (putRowK Dflt.enc 3 (Sort.ahead w n) g 0 (List.finRange 162).toArray) os g 0 (List.finRange 162).toArray (by simpa [putRowK, putRow, mapBlock, Sort.ahead] using hlt)
    (holdsK_putRowK Dflt.enc 3 (Sort.ahead w n) g 0 Dflt.idx.toArray _ (holdsK_ahead Dflt.enc 3 w n g 0 _ hH) (by simp [hl])) j (by simpa using hlen)
  rw [get_flatK _ _ _ _ (by simpa using hlen), Nat.zero_add] at h2
  rw [hrl, cells_get _ j hlen] at hj
  exact h2.1.trans hj
end Go.Proofs.YtmnbhjijphlanaaGreatDoor
