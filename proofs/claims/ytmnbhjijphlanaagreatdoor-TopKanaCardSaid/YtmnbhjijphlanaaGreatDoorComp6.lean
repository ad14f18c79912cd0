/-
  compose: join, Text.
-/
import Derived.Test.YtmnbhjijphlanaaGreatDoorComp5
namespace Go.Proofs.YtmnbhjijphlanaaGreatDoor
open Go.RowKit Mp Go.Shelf Go.Lib

theorem text1_any (a b : ByteArray) (w : World) : Calls Tryz.prog 36 #[.agg #[.string a, .string b]] w fun e w' => e = .returned (.string b) ∧ Below w.heap.size w w' := by
  go_enter Tryz.func36, Tryz.ntmps36
  go_wp2_with fail
  go_ret
  exact ⟨rfl, (Below.refl _ _).alloc (Nat.le_refl _) _⟩

def outs (l : List It) : Kp.Bs := (l.map (·.2)).flatten
theorem outs_snoc (l : List It) (x : It) : outs (l ++ [x]) = outs l ++ x.2 := by simp [outs]
theorem outs_len (l : List It) (h : ∀ x ∈ l, okItem x) : (outs l).length = 3 * l.length := by
  induction l with
  | nil => rfl
  | cons x l ih =>
    have h1 := (kana_count (h x (by simp)).2.2).2.2
    have h2 := ih (fun y hy => h y (by simp [hy]))
    simp only [outs, List.map_cons, List.flatten_cons, List.length_append, List.length_cons] at h2 ⊢
    omega

set_option maxRecDepth 100000 in
set_option maxHeartbeats 2000000 in
theorem join_any (l : List It) (ao : Option Addr) (cap : Nat) (w : World) (hs : w.ownsRow 0 90 2 (.slice ao l.length cap) l.length (cellsI l)) (hl : l.length ≤ 64) (hit : ∀ x ∈ l, okItem x) :
    Calls Tryz.prog 37 #[.slice ao l.length cap, .func (.func 36) #[] #[]] w fun e w' => e = .returned (.string ⟨(outs l).toArray⟩) ∧ Below w.heap.size w w' := by
  have HS := Lib.hid hs
  have HI := Lib.hid hit
  clear hs hit
  go_enter Tryz.func37, Tryz.ntmps37
  go_wp2_with fail
  go_loopw [10] (fun i wr => ∃ k : Nat, k ≤ l.length ∧ i = .int .i64 k ∧ Lib.IsBuilder 71 5 w.heap.size w.heap.size (Lib.byteCells (outs (l.take k))) wr ∧ Below w.heap.size w wr) (fun i _ => l.length - (intOf i).toNat)
  case atStart => exact ⟨0, Nat.zero_le _, rfl, Lib.fresh_isBuilder 71 5 w, (Below.refl _ _).alloc (Nat.le_refl _) _⟩
  case round =>
    obtain ⟨k, hk, rfl, hB, hb⟩ := hrel
    have hsz := hb.size
    by_cases hlt : k < l.length
    · obtain ⟨g, rfl, -, hglt, hcells⟩ := slice_cell2 HS.out (by omega)
      obtain ⟨e0, e1⟩ := cellsI_at l k hlt
      have d0 := (hb.cell (p := ⟨g, k * 2, none⟩) hglt).trans (hcells _ _ e0)
      have d1 := (hb.cell (p := ⟨g, k * 2 + 1, none⟩) hglt).trans (hcells _ _ e1)
      have hsn : outs (l.take (k + 1)) = outs (l.take k) ++ (l[k]).2 := by rw [List.take_succ_eq_append_getElem hlt, outs_snoc]
      have hlen : (outs (l.take k)).length = 3 * k := by
        rw [outs_len _ (fun x hx => HI.out x (List.mem_of_mem_take hx)), List.length_take, Nat.min_eq_left hk]
      have h3 := (kana_count (HI.out l[k] (List.getElem_mem hlt)).2.2).2.2
      generalize l[k] = x at d0 d1 hsn h3
      obtain ⟨x1, x2⟩ := x
      simp only at d0 d1 hsn h3
      have HN := Lib.hid hsn
      have hlen' : (Lib.byteCells (outs (l.take k))).length ≤ 300 := by simp only [Lib.byteCells, List.length_map]; omega
      have hx2 : (⟨x2.toArray⟩ : ByteArray).size ≤ 3 := by simp [ByteArray.size]; omega
      generalize outs (l.take k) = S at hB HN hlen'
      clear hsn hlen h3 e0 e1 hcells
      have hba : Below w.heap.size w (wr.alloc (.cells #[.string ⟨x1.toArray⟩, .string ⟨x2.toArray⟩] 90)) := hb.alloc hsz _
      have hBa := bld_below hB ((Below.refl wr.heap.size wr).alloc (Nat.le_refl _) (.cells #[.string ⟨x1.toArray⟩, .string ⟨x2.toArray⟩] 90))
      clear hB hb
      go_wp2_with fail
      generalize wr.alloc (.cells #[.string ⟨x1.toArray⟩, .string ⟨x2.toArray⟩] 90) = W1 at hba hBa ⊢
      refine (text1_any _ _ W1).mono ?_
      rintro e W2 ⟨rfl, hb2⟩
      have hb2' := hba.trans (hb2.mono hba.size)
      have hB2 := bld_below hBa hb2
      have hs2 := hb2'.size
      clear hba hBa hb2 d0 d1
      go_wp2_with fail
      refine (writeString_any w.heap.size w.heap.size _ ⟨x2.toArray⟩ W2 hB2 (by omega) hs2).mono ?_
      rintro e W3 ⟨rfl, hB3, hb3, -⟩
      have hb3' := hb2'.trans hb3
      clear hb2' hB2 hb3
      go_wp2_with fail
      go_roundw
      case rel =>
        refine ⟨k + 1, by omega, by go_num, ?_, hb3'⟩
        rw [HN.out]
        have e : Lib.byteCells (S ++ x2) = Lib.byteCells S ++ Lib.strCells ⟨x2.toArray⟩ := by simp [Lib.byteCells, Lib.strCells]
        rw [e]
        exact .inr hB3
      case measure => simp [intOf]; omega
    · have e : l.take k = l := by rw [List.take_of_length_le (by omega)]
      rw [e] at hB
      clear e
      go_wp2_with (go_at_call 25; refine (Tryz.Builder_String_any _ _ _ _ hB hsz).mono ?_; rintro e w' ⟨rfl, hb'⟩)
      go_ret
      exact ⟨rfl, hb.trans hb'⟩
set_option maxRecDepth 100000 in
theorem join_nil (ao : Option Addr) (cap : Nat) (w : World) : Calls Tryz.prog 37 #[.slice ao 0 cap, .func (.func 36) #[] #[]] w fun e w' => e = .returned (.string ⟨#[]⟩) ∧ Below w.heap.size w w' := by
  go_enter Tryz.func37, Tryz.ntmps37
  go_wp2_with fail
  go_loopw [10] (fun i wr => i = .int .i64 0 ∧ Lib.IsBuilder 71 5 w.heap.size w.heap.size (Lib.byteCells []) wr ∧ Below w.heap.size w wr) (fun _ _ => 0)
  case atStart => exact ⟨rfl, Lib.fresh_isBuilder 71 5 w, (Below.refl _ _).alloc (Nat.le_refl _) _⟩
  case round =>
    obtain ⟨rfl, hB, hb⟩ := hrel
    have hsz := hb.size
    go_wp2_with (go_at_call 25; refine (Tryz.Builder_String_any _ _ _ _ hB hsz).mono ?_; rintro e w' ⟨rfl, hb'⟩)
    go_ret
    exact ⟨rfl, hb.trans hb'⟩

set_option maxRecDepth 100000 in
set_option maxHeartbeats 4000000 in
theorem text_any (l : List It) (ao : Option Addr) (cap : Nat) (w : World) (hT : Tabs w) (hv : w.ownsRow 0 90 2 (.slice ao l.length cap) l.length (cellsI l)) (hl : l.length ≤ 64) (hit : ∀ x ∈ l, okItem x) :
    Calls Tryz.prog 12 #[.agg #[.slice ao l.length cap, .int .i64 l.length, .string ⟨#[]⟩]] w fun e w' => e = .returned (.tuple #[.string ⟨(outs l).toArray⟩, .string ⟨#[]⟩, .string ⟨#[]⟩]) ∧ Below w.heap.size w w' := by
  have hcap : l.length ≤ cap := by
    rcases hv.2 with ⟨hv', h0⟩ | ⟨g, c2, cur, hv', _, _, h3, _⟩
    · omega
    · simp only [Value.slice.injEq] at hv'; omega
  have hcheck := fun W (hb : Below w.heap.size w W) => bcheck_any l ao cap l.length [] W (Utf8Tabs_below hT hb) (row_below hv hb) hl (Nat.le_refl _) (by simp) (by simp) hit
  have hj1 := fun W (hb : Below w.heap.size w W) => join_any l ao cap W (row_below hv hb) hl hit
  have hs1 := slice_pre ao l.length cap hcap
  have hs2 := slice_post ao l.length cap
  generalize postA ao l.length cap = ap at hs2
  have HC := Lib.hid hcheck
  have HJ := Lib.hid hj1
  clear hcheck hj1 hit hv
  generalize outs l = S at HJ ⊢
  go_enter Tryz.func12, Tryz.ntmps12
  go_wp2_with fail
  have hb0 : Below w.heap.size w (w.alloc (.cells #[.slice ao l.length cap, .int .i64 l.length, .string ⟨#[]⟩] 40)) := (Below.refl _ _).alloc (Nat.le_refl _) _
  have hB := alloc_new w (.cells #[.slice ao l.length cap, .int .i64 l.length, .string ⟨#[]⟩] 40)
  generalize w.alloc (.cells #[.slice ao l.length cap, .int .i64 l.length, .string ⟨#[]⟩] 40) = W at hb0 hB ⊢
  refine (HC.out W hb0).mono ?_
  rintro e W1 ⟨rfl, hb1⟩
  have hltB := (Array.getElem?_eq_some_iff.1 hB).1
  have hB1 := (hb1.block _ hltB).trans hB
  have hbw := hb0.trans (hb1.mono hb0.size)
  have hlt1 := (Array.getElem?_eq_some_iff.1 hB1).1
  clear hb1 hB hb0 hltB HC
  have hkeep : ∀ W', Below W1.heap.size W1 W' → W'.cell? ⟨w.heap.size, 0, none⟩ = some (.slice ao l.length cap) ∧ W'.cell? ⟨w.heap.size, 1, none⟩ = some (.int .i64 l.length) ∧ W'.cell? ⟨w.heap.size, 2, none⟩ = some (.string ⟨#[]⟩) := fun W' hb => by
    have h := (hb.block _ hlt1).trans hB1
    exact ⟨by rw [Lib.cell_of_heap h]; rfl, by rw [Lib.cell_of_heap h]; rfl, by rw [Lib.cell_of_heap h]; rfl⟩
  have HK := Lib.hid hkeep
  obtain ⟨c0, c1, c2⟩ := hkeep W1 (Below.refl _ _)
  clear hkeep
  go_upto_region 4 with fail
  go_cut [2, 3, 4] (fun x y z wx => x = .string ⟨S.toArray⟩ ∧ y = .string ⟨#[]⟩ ∧ z = .string ⟨#[]⟩ ∧ Below w.heap.size w wx)
  case first =>
    go_region_held3 (fun w' => w'.cell? ⟨w.heap.size, 0, none⟩ = some (.slice ao l.length cap) ∧ w'.cell? ⟨w.heap.size, 1, none⟩ = some (.int .i64 l.length) ∧ w'.cell? ⟨w.heap.size, 2, none⟩ = some (.string ⟨#[]⟩))
      (exact HK.out _ (by repeat (first | exact Below.refl _ _ | refine belowC ?_ hbi | refine belowC ?_ hbj | refine Below.drew ?_)))
      (first
      | (go_at_call_of 37 (Value.slice ao l.length cap); refine (HJ.out _ (hbw.trans (Below.mono (by repeat (first | exact Below.refl _ _ | refine belowC ?_ hbi | refine belowC ?_ hbj | refine Below.drew ?_)) hbw.size))).mono ?_; rintro e Wi ⟨rfl, hbi⟩)
      | (go_at_call_of 37 (Value.slice ap 0 (cap - l.length)); refine (join_nil ap (cap - l.length) _).mono ?_; rintro e Wj ⟨rfl, hbj⟩))
    all_goals
      go_wp2_with fail
      go_meet
      exact ⟨rfl, rfl, rfl, hbw.trans (Below.mono (by repeat (first | exact Below.refl _ _ | refine belowC ?_ hbi | refine belowC ?_ hbj | refine Below.drew ?_)) hbw.size)⟩
  case rest =>
    obtain ⟨rfl, rfl, rfl, hb⟩ := hcut
    go_wp2_with fail
    go_ret3
    exact ⟨rfl, hb⟩
end Go.Proofs.YtmnbhjijphlanaaGreatDoor
