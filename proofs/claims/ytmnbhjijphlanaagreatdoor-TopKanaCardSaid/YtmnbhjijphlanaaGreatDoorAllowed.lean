/-
  Whether a text is keys, whether a rule is allowed.
-/
import Derived.Test.YtmnbhjijphlanaaGreatDoorUtf
namespace Go.Proofs.YtmnbhjijphlanaaGreatDoor
open Go.RowKit Mp Go.Shelf Go.Lib

def cutset : List UInt8 := [97, 98, 99, 100, 101, 102, 103, 104, 105, 106, 107, 108, 109, 110, 111, 112, 113, 114, 115, 116, 117, 118, 119, 120, 121, 122, 45, 44, 46, 39]
theorem drop_all {p : UInt8 → Bool} : ∀ l : List UInt8, (∀ c ∈ l, p c = true) → l.dropWhile p = []
  | [], _ => rfl
  | a :: l, h => by rw [List.dropWhile_cons, h a (by simp), if_pos rfl]; exact drop_all l (fun c hc => h c (by simp [hc]))
theorem trim_all (l : List UInt8) (h : ∀ c ∈ l, cutset.contains c = true) : Lib.trimS l cutset = [] := by
  have h1 : Lib.trimRightS l cutset = [] := by
    unfold Lib.trimRightS
    rw [drop_all _ (fun c hc => h c (by simpa using hc))]
    rfl
  unfold Lib.trimS
  rw [h1]
  rfl
theorem isKeys_any (s : ByteArray) (n : Int) (w : World) (hn : s.size ≤ n) (hs : s.size ≤ 1000000) (h : ∀ c ∈ s.data.toList, cutset.contains c = true) :
    Calls Tryz.prog 56 #[.string s, .int .i64 n] w fun e w' => e = .returned (.bool true) ∧ Below w.heap.size w w' := by
  have hcon := Any.strings_Trim_laid Tryz.lays160 (by kernel_rfl) s ⟨#[97, 98, 99, 100, 101, 102, 103, 104, 105, 106, 107, 108, 109, 110, 111, 112, 113, 114, 115, 116, 117, 118, 119, 120, 121, 122, 45, 44, 46, 39]⟩ w (by omega) (by decide) (ascii_of_all (by decide))
  change Calls Tryz.prog 79 _ _ (fun e w' => e = .returned (.string ⟨(Lib.trimS s.data.toList cutset).toArray⟩) ∧ Below w.heap.size w w') at hcon
  rw [trim_all _ h] at hcon
  go_enter Tryz.func56, Tryz.ntmps56
  go_wp2_with (go_at_call 79; refine hcon.mono ?_; rintro e w1 ⟨rfl, hb1⟩)
  go_ret
  exact ⟨rfl, hb1⟩

theorem ok_rules : ∀ r ∈ Kp.rules, (r.keys ≠ [] ∧ r.keys.length ≤ 4 ∧ r.out ≠ [] ∧ r.next.length ≤ 3 ∧ r.next.length < r.keys.length ∧ r.out.length ≤ 12) ∧ (r.keys.all cutset.contains = true ∧ r.next.all cutset.contains = true) := by decide +kernel
theorem ok_outs : ∀ r ∈ Kp.rules, Lib.validD r.out = true ∧ (runesV ⟨r.out.toArray⟩).size ≤ 4 ∧ (runesV ⟨r.out.toArray⟩).toList.all kanaV = true := by decide +kernel

set_option maxRecDepth 100000 in
set_option maxHeartbeats 2000000 in
theorem allowed_any (r : Kp.Rl) (hr : r ∈ Kp.rules) (w : World) (hT : Tabs w) :
    Calls Tryz.prog 38 #[.agg #[.string ⟨r.keys.toArray⟩, .string ⟨r.out.toArray⟩, .string ⟨r.next.toArray⟩]] w fun e w' => e = .returned (.bool true) ∧ Below w.heap.size w w' := by
  obtain ⟨⟨h1, h2, h3, h4, h5, h6⟩, h7, h8⟩ := ok_rules r hr
  obtain ⟨h9, h10, h11⟩ := ok_outs r hr
  obtain ⟨k, o, n⟩ := r
  simp only at *
  have ck := fun W => isKeys_any ⟨k.toArray⟩ 4 W (by simp [ByteArray.size]; omega) (by simp [ByteArray.size]; omega) (by simpa using h7)
  have cn := fun W => isKeys_any ⟨n.toArray⟩ 3 W (by simp [ByteArray.size]; omega) (by simp [ByteArray.size]; omega) (by simpa using h8)
  have co := fun W hW => isKana_any ⟨o.toArray⟩ W (by simp [ByteArray.size]; omega) hW (by simpa using h9) h10 (fun v hv => by rw [List.all_eq_true] at h11; exact h11 v hv)
  have hadd := fun W => add_strs W o n (by omega) (by omega)
  have ek : (k == []) = false := by simpa using h1
  have eon : (o ++ n == []) = false := by simp [h3]
  obtain ⟨w0, hw0⟩ : ∃ w0, w0 = w.alloc (.cells #[.string ⟨k.toArray⟩, .string ⟨o.toArray⟩, .string ⟨n.toArray⟩] 53) := ⟨_, rfl⟩
  have hb0 : Below w.heap.size w w0 := by rw [hw0]; exact (Below.refl _ _).alloc (Nat.le_refl _) _
  have hT0 : Tabs w0 := Utf8Tabs_below hT hb0
  have hblk : w0.heap[w.heap.size]? = some (.cells #[.string ⟨k.toArray⟩, .string ⟨o.toArray⟩, .string ⟨n.toArray⟩] 53 (0, 0)) := by rw [hw0]; exact alloc_new _ _
  have cells : ∀ W, Below w0.heap.size w0 W → W.cell? ⟨w.heap.size, 0, none⟩ = some (.string ⟨k.toArray⟩) ∧ W.cell? ⟨w.heap.size, 1, none⟩ = some (.string ⟨o.toArray⟩) ∧ W.cell? ⟨w.heap.size, 2, none⟩ = some (.string ⟨n.toArray⟩) := by
    intro W hW
    have hlt := (Array.getElem?_eq_some_iff.1 hblk).1
    have hb : W.heap[w.heap.size]? = _ := (hW.block _ hlt).trans hblk
    exact ⟨by rw [Lib.cell_of_heap hb]; rfl, by rw [Lib.cell_of_heap hb]; rfl, by rw [Lib.cell_of_heap hb]; rfl⟩
  obtain ⟨c0, c1, c2⟩ := cells w0 (Below.refl _ _)
  go_enter Tryz.func38, Tryz.ntmps38
  go_wp2_with (first
    | (go_at_call 56; rw [← hw0]; refine (ck _).mono ?_; rintro e w1 ⟨rfl, hb1⟩; obtain ⟨d0, d1, d2⟩ := cells w1 hb1; have hT1 : Tabs w1 := Utf8Tabs_below hT0 hb1)
    | (go_at_call 57; refine (co w1 hT1).mono ?_; rintro e w2 ⟨rfl, hb2⟩; have hb12 := hb1.trans (hb2.mono hb1.size); obtain ⟨f0, f1, f2⟩ := cells w2 hb12)
    | (go_at_call 56; refine (cn w2).mono ?_; rintro e w3 ⟨rfl, hb3⟩; have hb13 := hb12.trans (hb3.mono hb12.size); obtain ⟨g0, g1, g2⟩ := cells w3 hb13))
  go_ret
  exact ⟨by simp [eon], hb0.trans (hb13.mono hb0.size)⟩
end Go.Proofs.YtmnbhjijphlanaaGreatDoor
