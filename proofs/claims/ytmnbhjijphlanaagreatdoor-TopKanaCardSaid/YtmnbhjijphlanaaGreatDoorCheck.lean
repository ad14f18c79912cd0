/-
  Check: the rules of the document are allowed together.
-/
import Derived.Test.YtmnbhjijphlanaaGreatDoorAllowed
namespace Go.Proofs.YtmnbhjijphlanaaGreatDoor
open Go.RowKit Mp Go.Shelf Go.Lib

theorem cellsR_at (rs : List Kp.Rl) : ∀ (j : Nat) (h : j < rs.length), (cellsR rs)[j * 3]? = some (.string ⟨(rs[j]).keys.toArray⟩) ∧ (cellsR rs)[j * 3 + 1]? = some (.string ⟨(rs[j]).out.toArray⟩) ∧ (cellsR rs)[j * 3 + 2]? = some (.string ⟨(rs[j]).next.toArray⟩) := by
  induction rs with
  | nil => intro j h; simp at h
  | cons r rs ih =>
    intro j h
    cases j with
    | zero => simp [cellsR, strV]
    | succ j =>
      obtain ⟨a, b, c⟩ := ih j (by simpa using h)
      have e0 : (j + 1) * 3 = j * 3 + 3 := by omega
      have e1 : (j + 1) * 3 + 1 = (j * 3 + 1) + 3 := by omega
      have e2 : (j + 1) * 3 + 2 = (j * 3 + 2) + 3 := by omega
      rw [e1, e2, e0]
      simp only [cellsR, List.flatMap_cons, List.cons_append, List.nil_append, List.getElem?_cons_succ, List.getElem_cons_succ] at a b c ⊢
      exact ⟨a, b, c⟩
/-- the slice holds the rules of the document -/
def RowAt (w : World) (g : Nat) : Prop := ∀ j u, (cellsR Kp.rules)[j]? = some u → w.cell? ⟨g, j, none⟩ = some u
theorem RowAt.lt {w : World} {g : Nat} (h : RowAt w g) : g < w.heap.size := by
  have h0 := h 0 _ (cellsR_at Kp.rules 0 (by decide +kernel)).1
  rcases Nat.lt_or_ge g w.heap.size with hlt | hge
  · exact hlt
  · simp [World.cell?, Array.getElem?_eq_none hge] at h0
theorem RowAt.below {w w' : World} {g : Nat} (h : RowAt w g) (hb : Below w.heap.size w w') : RowAt w' g := fun j u hj => by rw [hb.cell (p := ⟨g, j, none⟩) h.lt]; exact h j u hj
theorem keys_nodup : (Kp.rules.map (·.keys)).Nodup := by
  rw [List.nodup_iff_pairwise_ne, List.pairwise_map]
  exact Dflt.keys_up.imp (fun {a b} h e => by rw [e, less_irrefl] at h; cases h)
theorem key_new (k : Nat) (hk : k < Kp.rules.length) : Al.get ((Kp.rules.take k).map (fun r => (r.keys, true))) (Kp.rules[k]).keys = none := by
  cases h : Al.get ((Kp.rules.take k).map (fun r => (r.keys, true))) (Kp.rules[k]).keys with
  | none => rfl
  | some v =>
    have hm := (Al.get_isSome_iff _ _).1 (by rw [h]; rfl : (Al.get ((Kp.rules.take k).map (fun r => (r.keys, true))) (Kp.rules[k]).keys).isSome = true)
    simp only [List.map_map, List.mem_map] at hm
    obtain ⟨r, hr, he⟩ := hm
    obtain ⟨j, hj, rfl⟩ := List.mem_iff_getElem.1 hr
    simp only [List.length_take] at hj
    have hlt := (List.pairwise_iff_getElem.1 Dflt.keys_up) j k (by omega) hk (by omega)
    simp only [List.getElem_take, Function.comp] at he
    rw [he, less_irrefl] at hlt
    cases hlt
theorem put_new {K V : Type} [DecidableEq K] (m : List (K × V)) (x : K) (v : V) (h : Al.get m x = none) : Al.put m x v = m ++ [(x, v)] := by
  induction m with
  | nil => rfl
  | cons e m ih =>
    rw [Al.get_cons] at h
    by_cases he : e.1 = x
    · simp [he] at h
    · simp only [he, if_false] at h
      simp [Al.put, he, ih h]

set_option maxRecDepth 100000 in
set_option maxHeartbeats 2000000 in
theorem check_any (g cap : Nat) (w : World) (hR : RowAt w g) (hT : Tabs w) :
    Calls Tryz.prog 13 #[.slice (some ⟨g, 0, none⟩) 162 cap] w fun e w' => e = .returned (.int .i64 0) ∧ Below w.heap.size w w' := by
  have hmm := @run_makeMap Tryz.prog
  go_enter Tryz.func13, Tryz.ntmps13
  go_wp2_with fail
  go_loopw [12] (fun i wr => ∃ k : Nat, k ≤ 162 ∧ i = .int .i64 k ∧ MapIs wr w.heap.size (ent strV Value.bool ((Kp.rules.take k).map (fun r => (r.keys, true)))) ∧ Below w.heap.size w wr) (fun i _ => 162 - (intOf i).toNat)
  case atStart => exact ⟨0, Nat.zero_le _, rfl, mapIs_made _, (Below.refl _ _).alloc (Nat.le_refl _) _⟩
  case round =>
    obtain ⟨k, hkl, rfl, hM, hb⟩ := hrel
    by_cases hlt : k < 162
    · have hlt' : k < Kp.rules.length := by rw [Kp.rules_len]; exact hlt
      obtain ⟨hc0, hc1, hc2⟩ := cellsR_at Kp.rules k hlt'
      have d0 := (hR.below (hb.mono (Nat.le_refl _))) _ _ hc0
      have d1 := (hR.below (hb.mono (Nat.le_refl _))) _ _ hc1
      have d2 := (hR.below (hb.mono (Nat.le_refl _))) _ _ hc2
      have hnew := key_new k hlt'
      have hput : Al.put ((Kp.rules.take k).map (fun r => (r.keys, true))) (Kp.rules[k]).keys true = (Kp.rules.take (k + 1)).map (fun r => (r.keys, true)) := by
        rw [put_new _ _ _ hnew, List.take_succ_eq_append_getElem hlt', List.map_append]; rfl
      have hmem : Kp.rules[k] ∈ Kp.rules := List.getElem_mem _
      generalize Kp.rules[k] = r at hc0 hc1 hc2 d0 d1 d2 hnew hput hmem
      generalize (Kp.rules.take k).map (fun r => (r.keys, true)) = L at hnew hput hM
      obtain ⟨w2, hw2⟩ : ∃ w2, w2 = wr.alloc (.cells #[.string ⟨r.keys.toArray⟩, .string ⟨r.out.toArray⟩, .string ⟨r.next.toArray⟩] 53) := ⟨_, rfl⟩
      have hb2 : Below wr.heap.size wr w2 := by rw [hw2]; exact (Below.refl _ _).alloc (Nat.le_refl _) _
      have hM2 : MapIs w2 w.heap.size (ent strV Value.bool L) := hM.below hb2 hM.lt
      have hblk : w2.heap[wr.heap.size]? = some (.cells #[.string ⟨r.keys.toArray⟩, .string ⟨r.out.toArray⟩, .string ⟨r.next.toArray⟩] 53 (0, 0)) := by rw [hw2]; exact alloc_new _ _
      have hlook : (Instr.lookup 48 (.map (some w.heap.size)) (.string ⟨r.keys.toArray⟩) false).run Tryz.prog w2 = .ok (.bool false) w2 := by
        have h := hM2.lookup keyBy_s Tryz.underlying48 (Tryz.zeroValue4 w2) r.keys false
        rw [hnew] at h
        exact h
      have hT2 : Tabs w2 := Utf8Tabs_below (Utf8Tabs_below hT hb) hb2
      have hal := allowed_any r hmem w2 hT2
      have hlt2 := (Array.getElem?_eq_some_iff.1 hblk).1
      rw [hw2] at hlook hal
      go_wp2_with (first
        | (go_at_call 38; refine hal.mono ?_; rw [← hw2]; rintro e w3 ⟨rfl, hb3⟩; have hM3 := hM2.below hb3 hM2.lt; have c3 : w3.cell? ⟨wr.heap.size, 0, none⟩ = some (.string ⟨r.keys.toArray⟩) := by rw [Lib.cell_of_heap ((hb3.block _ hlt2).trans hblk)]; rfl)
        | (at_mapUpdate; refine wpList_update _ rfl (.tmp 25) (.tmp 27) (.const (.bool true)) 48 rfl keyBy_s Tryz.underlying48 w.heap.size L rfl hM3 r.keys true rfl rfl ?_; intro w4 hM4 hg4))
      go_roundw
      case rel =>
        refine ⟨k + 1, by omega, by go_num, by rw [← hput]; exact hM4, ?_⟩
        exact (((hb.trans (hb2.mono hb.size)).trans (hb3.mono (by have := hb2.size; have := hb.size; omega))).grown hg4 (by have := hb2.size; have := hb3.size; have := hb.size; omega) (fun k hk => by cases hk; exact Nat.le_refl _))
      case measure => simp [intOf]; omega
    · go_wp2
      go_ret
      exact ⟨rfl, hb⟩
end Go.Proofs.YtmnbhjijphlanaaGreatDoor
