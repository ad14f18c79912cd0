/-
  Default: the rules of the document, sorted.
-/
import Derived.Test.YtmnbhjijphlanaaGreatDoorDfltSplit
import Derived.Test.YtmnbhjijphlanaaGreatDoorTypeRel
import Derived.StillTailTactics
import Derived.BigQuiet
namespace Go.Proofs.YtmnbhjijphlanaaGreatDoor
open Go.RowKit Mp Go.Shelf Go.Sort

/-- a block of strings -/
def Strs (w : World) (b : Nat) (l : List Kp.Bs) : Prop := w.heap[b]? = some (.cells ((l.map (fun l => Value.string (Dflt.strB l))).toArray) 9 (0, 0))
theorem Strs.cell {w : World} {b : Nat} {l : List Kp.Bs} (h : Strs w b l) (i : Nat) (hi : i < l.length) : w.cell? ⟨b, i, none⟩ = some (.string (Dflt.strB (l.getD i []))) := by
  rw [Lib.cell_of_heap h]
  simp [List.getD, hi]
structure DS (w0 : World) (rs : List Kp.Rl) (w : World) : Prop where
  out : OutIs w0.heap.size w0.heap.size rs w
  below : Below w0.heap.size w0 w
  rows : Strs w (w0.heap.size + 1) ([] :: Dflt.tbl.map Dflt.line)
theorem DS.lt {w0 w : World} {rs : List Kp.Rl} (h : DS w0 rs w) : w0.heap.size + 1 < w.heap.size := (Array.getElem?_eq_some_iff.1 h.rows).1
theorem DS.later {w0 w w' : World} {rs : List Kp.Rl} (h : DS w0 rs w) (hb : Below w.heap.size w w') : DS w0 rs w' := by
  obtain ⟨⟨v, h1, h2, h3⟩, h4, h5⟩ := h
  have hlt := (Array.getElem?_eq_some_iff.1 h5).1
  refine ⟨⟨v, (hb.block _ (by omega)).trans h1, h2.kept (grown_of_below hb) (by cases v.ownBlock <;> simp), h3⟩, h4.trans (hb.mono (by omega)), (hb.block _ hlt).trans h5⟩

theorem add_dsK (w0 : World) (rs : List Kp.Rl) (k o n : List UInt8) (w : World) (h : DS w0 rs w) (hl : rs.length ≤ 1000) :
    Calls Tryz.prog 14 #[.string ⟨k.toArray⟩, .string ⟨o.toArray⟩, .string ⟨n.toArray⟩, .pointer (some ⟨w0.heap.size, 0, none⟩)] w fun e w' => e = .returned (.tuple #[]) ∧ DS w0 (rs ++ [⟨k, o, n⟩]) w' ∧ Lib.OthersKept 53 (some w0.heap.size) w w' := by
  have hlt := h.lt
  refine (add_any w0.heap.size w0.heap.size rs k o n w h.out hl (Nat.le_refl _) (by omega)).mono ?_
  rintro e w' ⟨rfl, h1, h2, h3⟩
  refine ⟨rfl, ⟨h1, h.below.trans h2, h3 _ _ h.rows (by simp) (by intro c fz; simp)⟩, h3⟩
theorem add_ds (w0 : World) (rs : List Kp.Rl) (k o n : List UInt8) (w : World) (h : DS w0 rs w) (hl : rs.length ≤ 1000) :
    Calls Tryz.prog 14 #[.string ⟨k.toArray⟩, .string ⟨o.toArray⟩, .string ⟨n.toArray⟩, .pointer (some ⟨w0.heap.size, 0, none⟩)] w fun e w' => e = .returned (.tuple #[]) ∧ DS w0 (rs ++ [⟨k, o, n⟩]) w' ∧ ∀ b l, Strs w b l → Strs w' b l := by
  have hlt := h.lt
  refine (add_any w0.heap.size w0.heap.size rs k o n w h.out hl (Nat.le_refl _) (by omega)).mono ?_
  rintro e w' ⟨rfl, h1, h2, h3⟩
  have hk : ∀ b l, Strs w b l → Strs w' b l := fun b l hs => h3 b _ hs (by
    rintro e
    simp only [Option.some.injEq] at e
    subst e
    obtain ⟨v, hv, _⟩ := h.out
    rw [Strs, hv] at hs
    simp at hs) (by intro c fz; simp)
  exact ⟨rfl, ⟨h1, h.below.trans h2, hk _ _ h.rows⟩, hk⟩

theorem upTo_succ (k : Nat) (hk : k < Dflt.tbl.length) : Dflt.upTo (k + 1) = Dflt.upTo k ++ Dflt.rowRules Dflt.tbl[k] := by
  unfold Dflt.upTo; rw [List.take_succ_eq_append_getElem hk, List.flatMap_append, List.flatMap_singleton]
theorem add_strs (W : World) (a b : Kp.Bs) (h : a.length ≤ 100000) (hb : b.length ≤ 100000) : (Op.stringOp .add ⟨a.toArray⟩ ⟨b.toArray⟩).run Tryz.prog W = .ok (.string ⟨(a ++ b).toArray⟩) W := by
  have := run_string_add_sum (P := Tryz.prog) W ⟨a.toArray⟩ ⟨b.toArray⟩ (by simp [ByteArray.size]; omega)
  rwa [ByteArray.mk_append_mk] at this
theorem kana_len (r : List Kp.Bs) : ∀ j, (Dflt.kanaRules r j).length ≤ j
  | 0 => Nat.le_refl _
  | j + 1 => by
    have h := kana_len r j
    unfold Dflt.kanaRules
    split <;> simp <;> omega
theorem upTo_len (k : Nat) : (Dflt.upTo k).length ≤ 200 := by
  by_cases h : k ≤ 25
  · exact (by decide +kernel : ∀ k : Fin 26, (Dflt.upTo k.val).length ≤ 200) ⟨k, by omega⟩
  · have e : Dflt.upTo k = Dflt.upTo 25 := by unfold Dflt.upTo; rw [List.take_of_length_le (by rw [Dflt.tbl_len]; omega), List.take_of_length_le (by rw [Dflt.tbl_len]; omega)]
    rw [e]
    decide +kernel
theorem line_lit (r : List Kp.Bs) : Dflt.strB (Dflt.line r) = Dflt.lineB r := rfl
theorem line_at (k : Nat) (hk : k < 25) : ([] :: Dflt.tbl.map Dflt.line).getD (1 + k) [] = Dflt.line (Dflt.tbl[k]'(by rw [Dflt.tbl_len]; exact hk)) := by
  rw [Nat.add_comm]
  simp [List.getD, Dflt.tbl_len, hk]

theorem DS.iter {w0 w : World} {rs : List Kp.Rl} (h : DS w0 rs w) (s : ByteArray) : DS w0 rs (w.iter s 0) ∧ (w.iter s 0).heap[w.heap.size]? = some (.stringIter s 0) :=
  ⟨h.later ((Below.refl _ _).alloc (Nat.le_refl _) _), World.iter_heap w s 0⟩
theorem DS.iterAt {w0 w : World} {rs : List Kp.Rl} (h : DS w0 rs w) {k : Nat} {s : ByteArray} {pos : Nat} (hk : w.heap[k]? = some (.stringIter s pos)) (hk0 : w0.heap.size ≤ k) (pos' : Nat) : DS w0 rs (w.iterAt k s pos') := by
  obtain ⟨⟨v, h1, h2, h3⟩, h4, h5⟩ := h
  have hne : ∀ j c e f, w.heap[j]? = some (Obj.cells c e f) → (w.iterAt k s pos').heap[j]? = some (Obj.cells c e f) := fun j c e f hj => by
    have : j ≠ k := by rintro rfl; rw [hk] at hj; cases hj
    rw [Lib.iterAt_other _ _ _ _ _ this]; exact hj
  refine ⟨⟨v, hne _ _ _ _ h1, ⟨h2.1, ?_⟩, h3⟩, Lib.below_iterAt h4 hk0 s pos', hne _ _ _ _ h5⟩
  rcases h2.2 with hn | ⟨g, cap, cur, hv, hbg, hg, rest⟩
  · exact .inl hn
  · exact .inr ⟨g, cap, cur, hv, hbg, hne _ _ _ _ hg, rest⟩
def dblB : ByteArray := ⟨#[98, 99, 100, 102, 103, 104, 106, 107, 109, 112, 114, 115, 116, 118, 119, 121, 122]⟩
theorem dbl_at : ∀ n : Fin 17, dblB[n.val]'(by have : dblB.size = 17 := rfl; omega) = Dflt.doubled[n.val]'(by have : Dflt.doubled.length = 17 := rfl; omega) := by decide +kernel
theorem dbl_key : ∀ c ∈ Dflt.doubled, Kp.isKey c = true := by decide +kernel
/-- n, nn and n' -/
def nKeys : List Kp.Bs := [[110], [110, 110], [110, 39]]
set_option maxRecDepth 100000 in
set_option maxHeartbeats 2000000 in
theorem default_any (m : Int) (w : World) (hm : w.cell? ⟨2, 0, none⟩ = some (.int .i64 m)) (hw : 3 ≤ w.heap.size) :
    Calls Tryz.prog 5 #[] w fun e w' => ∃ g cap, e = .returned (.slice (some ⟨g, 0, none⟩) 162 cap) ∧ w.heap.size ≤ g ∧ Below w.heap.size w w' ∧ ∀ j u, (cellsR Kp.rules)[j]? = some u → w'.cell? ⟨g, j, none⟩ = some u := by
  have hm0 : ∀ o, (w.alloc o).cell? ⟨2, 0, none⟩ = some (.int .i64 m) := fun o => by rw [((Below.refl w.heap.size w).alloc (Nat.le_refl _) o).cell (by simp; omega)]; exact hm
  go_enter Tryz.func5, Tryz.ntmps5
  go_wp2_with (go_at_call 15; refine (split_rows m _ (hm0 _)).mono ?_; rintro e w1 ⟨rfl, rfl⟩)
  go_loopw [16] (fun i wr => ∃ k : Nat, k ≤ 25 ∧ i = .int .i64 k ∧ DS w (Dflt.upTo k) wr) (fun i _ => 25 - (intOf i).toNat)
  case atStart =>
    refine ⟨0, by omega, rfl, ⟨⟨_, ?_, World.ownsRow_nil _ _ _ _, by simp [Value.ownBlock]⟩, ?_, ?_⟩⟩
    · rw [Below.heap_alloc _ _ _ (by simp)]; exact alloc_new w _
    · exact ((Below.refl _ _).alloc (Nat.le_refl _) _).alloc (by simp) _
    · have h := alloc_new (w.alloc (.cells #[.slice none 0 0] 27)) (.cells ((([] :: Dflt.tbl.map Dflt.line).map (fun l => Value.string (Dflt.strB l))).toArray) 9)
      simpa [Strs] using h
  case round =>
    obtain ⟨k, hk, rfl, hD⟩ := hrel
    by_cases hlt : k < 25
    · have hlt' : k < Dflt.tbl.length := by rw [Dflt.tbl_len]; exact hlt
      have hline : wr.cell? ⟨w.heap.size + 1, 1 + k, none⟩ = some (.string (Dflt.lineB Dflt.tbl[k])) := by
        rw [hD.rows.cell (1 + k) (by simp [Dflt.tbl_len]; omega), line_at k hlt, line_lit]
      have hmem : Dflt.tbl[k] ∈ Dflt.tbl := List.getElem_mem _
      have hup : Dflt.upTo (k + 1) = Dflt.upTo k ++ Dflt.rowRules Dflt.tbl[k] := upTo_succ k hlt'
      generalize Dflt.tbl[k] = r at hline hmem hup
      have hmr : wr.cell? ⟨2, 0, none⟩ = some (.int .i64 m) := by rw [hD.below.cell (by simp; omega)]; exact hm
      go_wp2_with (go_at_call 15; refine (split_words r hmem m _ hmr).mono ?_; rintro e w1 ⟨rfl, rfl⟩)
      have hstart : DS w (Dflt.upTo k ++ Dflt.kanaRules r 0) (wr.alloc (Obj.cells (List.map (fun l => Value.string (Dflt.strB l)) r).toArray 9)) ∧ Strs (wr.alloc (Obj.cells (List.map (fun l => Value.string (Dflt.strB l)) r).toArray 9)) wr.heap.size r :=
        ⟨by simpa [Dflt.kanaRules] using hD.later ((Below.refl _ _).alloc (Nat.le_refl _) _), alloc_new _ _⟩
      generalize wr.alloc (Obj.cells (List.map (fun l => Value.string (Dflt.strB l)) r).toArray 9) = w2 at hstart
      obtain ⟨hlen6, hshort⟩ := Dflt.words_len r hmem
      have hupl : (Dflt.upTo k).length ≤ 200 := upTo_len k
      go_loopw [25] (fun i wi => ∃ j : Nat, j ≤ 5 ∧ i = .int .i64 j ∧ DS w (Dflt.upTo k ++ Dflt.kanaRules r j) wi ∧ Strs wi wr.heap.size r) (fun i _ => 5 - (intOf i).toNat)
      case atStart => exact ⟨0, by omega, rfl, hstart.1, hstart.2⟩
      case round =>
        obtain ⟨wo, rfl⟩ : ∃ wo : World, wo = wr := ⟨_, rfl⟩
        obtain ⟨j, hj, rfl, hDi, hSi⟩ := hrel
        by_cases hjl : j < 5
        · have hc0 := hSi.cell 0 (by omega)
          have hcj := hSi.cell (1 + j) (by omega)
          obtain ⟨x0, hx0⟩ : ∃ x, x = r.getD 0 [] := ⟨_, rfl⟩
          obtain ⟨x, hx⟩ : ∃ x, x = r.getD (1 + j) [] := ⟨_, rfl⟩
          rw [← hx0] at hc0
          rw [← hx] at hcj
          have hx0' : Dflt.word r 0 = x0 := hx0.symm
          have hx' : Dflt.word r (j + 1) = x := by rw [hx, Nat.add_comm]; rfl
          have hx0m : x0.length ≤ 12 := by rw [hx0]; exact hshort _ (by rw [show r.getD 0 [] = r[0] by simp [List.getD, show 0 < r.length by omega]]; exact List.getElem_mem _)
          unfold Dflt.strB at hc0 hcj
          clear hx0 hx
          have hvow : ∀ i, i < 5 → (⟨#[97, 105, 117, 101, 111]⟩ : ByteArray).extract i (i + 1) = ⟨#[Dflt.vowel i]⟩ := by decide +kernel
          have hx0l : x0.length ≤ 12 := hx0m
          have hadd : ∀ (W : World) (c : UInt8), (Op.stringOp .add ⟨x0.toArray⟩ ⟨#[c]⟩).run Tryz.prog W = .ok (.string ⟨(x0 ++ [c]).toArray⟩) W := fun W c => add_key W x0 c (by omega)
          cases hxx : x == [45] with
          | true =>
            go_wp2_with fail
            go_roundw
            case rel => exact ⟨j + 1, by omega, by go_num, by rw [Dflt.kanaRules, hx', if_pos (by simpa using hxx), List.append_nil]; exact hDi, hSi⟩
            case measure => simp [intOf]; omega
          | false =>
            have hkl : (Dflt.kanaRules r j).length ≤ 5 := Nat.le_trans (kana_len r j) (by omega)
            have hcon := fun (W : World) h => add_ds w (Dflt.upTo k ++ Dflt.kanaRules r j) (x0 ++ [Dflt.vowel j]) x [] W h (by simp; omega)
            have hend : Dflt.kanaRules r (j + 1) = Dflt.kanaRules r j ++ [⟨x0 ++ [Dflt.vowel j], x, []⟩] := by rw [Dflt.kanaRules, hx', hx0', if_neg (by simpa using hxx)]
            generalize Dflt.kanaRules r j = done at *
            have hwr : IntKind.i64.wrap ((j : Int) + 1) = (j : Int) + 1 := wrap_small _ (by omega) (by omega)
            have hsl : ∀ W : World, (Instr.slice 9 (.string ⟨#[97, 105, 117, 101, 111]⟩) (some (.int .i64 j)) (some (.int .i64 ((j : Int) + 1))) none).run Tryz.prog W = .ok (.string ⟨#[Dflt.vowel j]⟩) W := fun W => by
              rw [run_slice_string W 9 _ .i64 .i64 (j : Int) ((j : Int) + 1) Tryz.underlying9 (by omega) (by omega) (by rw [show (⟨#[97, 105, 117, 101, 111]⟩ : ByteArray).size = 5 from rfl]; omega)]
              rw [← hvow j hjl]
              rfl
            go_wp2_with fail
            go_still_tail 10, (by kernel_rfl)
            change wpList _ _ _ _ _ wo.drew
            go_wp2_with (go_at_call 14; refine (hcon _ (hDi.later (Below.refl _ _).drew)).mono ?_; rintro e w3 ⟨rfl, hD3, hS3⟩)
            go_roundw
            case rel => exact ⟨j + 1, by omega, by go_num, by rw [hend, ← List.append_assoc]; exact hD3, hS3 _ _ (by exact hSi)⟩
            case measure => simp [intOf]; omega
        · obtain rfl : j = 5 := by omega
          have hc0 := hSi.cell 0 (by omega)
          have hc2 := hSi.cell 2 (by omega)
          obtain ⟨x0, hx0⟩ : ∃ x, x = r.getD 0 [] := ⟨_, rfl⟩
          obtain ⟨x, hx⟩ : ∃ x, x = r.getD 2 [] := ⟨_, rfl⟩
          rw [← hx0] at hc0
          rw [← hx] at hc2
          have hx0' : Dflt.word r 0 = x0 := hx0.symm
          have hx' : Dflt.word r 2 = x := hx.symm
          have hx0m : x0.length ≤ 12 := by rw [hx0]; exact hshort _ (by rw [show r.getD 0 [] = r[0] by simp [List.getD, show 0 < r.length by omega]]; exact List.getElem_mem _)
          have hxm : x.length ≤ 12 := by rw [hx]; exact hshort _ (by rw [show r.getD 2 [] = r[2] by simp [List.getD, show 2 < r.length by omega]]; exact List.getElem_mem _)
          unfold Dflt.strB at hc0 hc2
          clear hx0 hx
          by_cases hl1 : x0.length = 1
          · have hcon := fun W h => Tryz.strings_Contains (⟨#[107, 115, 116, 110, 104, 109, 114, 103, 122, 100, 98, 112]⟩ : ByteArray) ⟨x0.toArray⟩ m W (by decide) h
            have hmo : wo.cell? ⟨2, 0, none⟩ = some (.int .i64 m) := by rw [hDi.below.cell (by simp; omega)]; exact hm
            have hy : Dflt.isY r = Lib.contains (⟨#[107, 115, 116, 110, 104, 109, 114, 103, 122, 100, 98, 112]⟩ : ByteArray).data.toList (⟨x0.toArray⟩ : ByteArray).data.toList := by
              unfold Dflt.isY; rw [hx0', decide_eq_true hl1]; simp
            generalize Lib.contains (⟨#[107, 115, 116, 110, 104, 109, 114, 103, 122, 100, 98, 112]⟩ : ByteArray).data.toList (⟨x0.toArray⟩ : ByteArray).data.toList = bc at hcon hy
            have hkl : (Dflt.kanaRules r 5).length ≤ 5 := kana_len r 5
            cases bc with
            | false =>
              go_wp2_with (go_at_call 16; refine (hcon _ hmo).mono ?_; rintro e w3 ⟨rfl, rfl⟩)
              go_roundw
              case rel => exact ⟨k + 1, by omega, by go_num, by rw [hup, Dflt.rowRules, Dflt.yRules, hy, if_neg (by simp), List.append_nil]; exact hDi⟩
              case measure => simp [intOf]; omega
            | true =>
              have hadd := fun (W : World) (a : UInt8) => add_strs W x0 [121, a] (by omega) (by simp)
              have hadd2 := fun (W : World) (a : UInt8) => add_strs W x [227, 130, a] (by omega) (by simp)
              go_wp2_with (go_at_call 16; refine (hcon _ hmo).mono ?_; rintro e w3 ⟨rfl, rfl⟩)
              go_still_tail 9, (by kernel_rfl)
              change wpList _ _ _ _ _ w3.drew
              go_wp2_with (go_at_call 14; refine (add_ds w (Dflt.upTo k ++ Dflt.kanaRules r 5) (x0 ++ [121, 97]) (x ++ [227, 130, 131]) [] _ (hDi.later (Below.refl _ _).drew) (by simp; omega)).mono ?_; rintro e w4 ⟨rfl, hD4, hS4⟩)
              have hSi4 := hS4 _ _ (show Strs w3.drew wr.heap.size r from hSi)
              have hc04 : w4.cell? ⟨wr.heap.size, 0, none⟩ = some (.string ⟨x0.toArray⟩) := by have h := hSi4.cell 0 (by omega); rw [show r.getD 0 [] = x0 from hx0'] at h; exact h
              have hc24 : w4.cell? ⟨wr.heap.size, 2, none⟩ = some (.string ⟨x.toArray⟩) := by have h := hSi4.cell 2 (by omega); rw [show r.getD 2 [] = x from hx'] at h; exact h
              go_still_tail 9, (by kernel_rfl)
              change wpList _ _ _ _ _ w4.drew
              go_wp2_with (go_at_call 14; refine (add_ds w _ (x0 ++ [121, 117]) (x ++ [227, 130, 133]) [] _ (hD4.later (Below.refl _ _).drew) (by simp; omega)).mono ?_; rintro e w5 ⟨rfl, hD5, hS5⟩)
              have hSi5 := hS5 _ _ (show Strs w4.drew wr.heap.size r from hSi4)
              have hc05 : w5.cell? ⟨wr.heap.size, 0, none⟩ = some (.string ⟨x0.toArray⟩) := by have h := hSi5.cell 0 (by omega); rw [show r.getD 0 [] = x0 from hx0'] at h; exact h
              have hc25 : w5.cell? ⟨wr.heap.size, 2, none⟩ = some (.string ⟨x.toArray⟩) := by have h := hSi5.cell 2 (by omega); rw [show r.getD 2 [] = x from hx'] at h; exact h
              go_still_tail 9, (by kernel_rfl)
              change wpList _ _ _ _ _ w5.drew
              go_wp2_with (go_at_call 14; refine (add_ds w _ (x0 ++ [121, 111]) (x ++ [227, 130, 135]) [] _ (hD5.later (Below.refl _ _).drew) (by simp; omega)).mono ?_; rintro e w6 ⟨rfl, hD6, hS6⟩)
              go_roundw
              case rel =>
                refine ⟨k + 1, by omega, by go_num, ?_⟩
                rw [hup, Dflt.rowRules, Dflt.yRules, hy, if_pos rfl, hx0', hx']
                simpa using hD6
              case measure => simp [intOf]; omega
          · go_wp2_with fail
            go_roundw
            case rel => exact ⟨k + 1, by omega, by go_num, by rw [hup, Dflt.rowRules, Dflt.yRules, Dflt.isY, hx0', decide_eq_false hl1, if_neg (by simp), List.append_nil]; exact hDi⟩
            case measure => simp [intOf]; omega
    · have hk25 : k = 25 := by omega
      rw [hk25] at hD
      go_wp2_with fail
      clear hlt hk hk25
      generalize (k : Int) = kk
      have hD0 : DS w (Dflt.upTo 25 ++ Dflt.nRules.take 0) (wr.alloc (Obj.cells #[Value.string { data := #[110] }, Value.string { data := #[110, 110] }, Value.string { data := #[110, 39] }] 9)) := by
        simpa using hD.later ((Below.refl _ _).alloc (Nat.le_refl _) _)
      have hS0 : Strs (wr.alloc (Obj.cells #[Value.string { data := #[110] }, Value.string { data := #[110, 110] }, Value.string { data := #[110, 39] }] 9)) wr.heap.size nKeys := alloc_new _ _
      generalize wr.alloc (Obj.cells #[Value.string { data := #[110] }, Value.string { data := #[110, 110] }, Value.string { data := #[110, 39] }] 9) = w2 at hD0 hS0
      have hupl : (Dflt.upTo 25).length ≤ 200 := upTo_len 25
      go_loopw [88] (fun i wi => ∃ j : Nat, j ≤ 3 ∧ i = .int .i64 j ∧ DS w (Dflt.upTo 25 ++ Dflt.nRules.take j) wi ∧ Strs wi wr.heap.size nKeys) (fun i _ => 3 - (intOf i).toNat)
      case atStart => exact ⟨0, by omega, rfl, hD0, hS0⟩
      case round =>
        obtain ⟨wo, rfl⟩ : ∃ wo : World, wo = wr := ⟨_, rfl⟩
        obtain ⟨j, hj, rfl, hDi, hSi⟩ := hrel
        have hc0 : wo.cell? ⟨wr.heap.size, 0, none⟩ = some (.string ⟨#[110]⟩) := hSi.cell 0 (by decide)
        have hc1 : wo.cell? ⟨wr.heap.size, 1, none⟩ = some (.string ⟨#[110, 110]⟩) := hSi.cell 1 (by decide)
        have hc2 : wo.cell? ⟨wr.heap.size, 2, none⟩ = some (.string ⟨#[110, 39]⟩) := hSi.cell 2 (by decide)
        have hcon := fun (k : Kp.Bs) => add_ds w (Dflt.upTo 25 ++ Dflt.nRules.take j) k [227, 130, 147] [] wo hDi (by simp [Dflt.nRules]; omega)
        obtain rfl | rfl | rfl | rfl : j = 0 ∨ j = 1 ∨ j = 2 ∨ j = 3 := by omega
        · go_wp2_with (go_at_call 14; refine (hcon [110]).mono ?_; rintro e w3 ⟨rfl, hD3, hS3⟩)
          go_roundw
          case rel => exact ⟨1, by omega, by go_num, by simpa [Dflt.nRules] using hD3, hS3 _ _ hSi⟩
          case measure => simp [intOf]
        · go_wp2_with (go_at_call 14; refine (hcon [110, 110]).mono ?_; rintro e w3 ⟨rfl, hD3, hS3⟩)
          go_roundw
          case rel => exact ⟨2, by omega, by go_num, by simpa [Dflt.nRules] using hD3, hS3 _ _ hSi⟩
          case measure => simp [intOf]
        · go_wp2_with (go_at_call 14; refine (hcon [110, 39]).mono ?_; rintro e w3 ⟨rfl, hD3, hS3⟩)
          go_roundw
          case rel => exact ⟨3, by omega, by go_num, by simpa [Dflt.nRules] using hD3, hS3 _ _ hSi⟩
          case measure => simp [intOf]
        · clear hcon
          have hl0 : (Dflt.upTo 25 ++ Dflt.nRules).length ≤ 300 := by simp [Dflt.nRules]; omega
          have hDn : DS w (Dflt.upTo 25 ++ Dflt.nRules) wo := by simpa [Dflt.nRules] using hDi
          have hun : Dflt.unsorted = Dflt.upTo 25 ++ Dflt.nRules ++ Dflt.fourRules ++ Dflt.doubled.map Dflt.dbl := rfl
          clear hDi hSi hc0 hc1 hc2 hD hD0 hS0
          generalize Dflt.upTo 25 ++ Dflt.nRules = R at hl0 hDn hun
          go_wp2_with fail
          refine (add_ds w R [45] [227, 131, 188] [] wo hDn (by omega)).mono ?_
          rintro e w3 ⟨rfl, hD3, -⟩
          go_wp2_with fail
          refine (add_ds w _ [44] [227, 128, 129] [] w3 hD3 (by simp only [List.length_append, List.length_singleton]; omega)).mono ?_
          rintro e w4 ⟨rfl, hD4, -⟩
          go_wp2_with fail
          refine (add_ds w _ [46] [227, 128, 130] [] w4 hD4 (by simp only [List.length_append, List.length_singleton]; omega)).mono ?_
          rintro e w5 ⟨rfl, hD5, -⟩
          go_wp2_with fail
          refine (add_ds w _ [116, 99] [227, 129, 163] [99] w5 hD5 (by simp only [List.length_append, List.length_singleton]; omega)).mono ?_
          rintro e w6 ⟨rfl, hD6, -⟩
          go_wp2_with fail
          obtain ⟨hD7, hit7⟩ := hD6.iter dblB
          have hit0 : w.heap.size < w6.heap.size := by have := hD6.lt; omega
          change Code.wp _ _ _ _ (w6.iter dblB 0)
          generalize w6.iter dblB 0 = w7 at hD7 hit7
          generalize w6.heap.size = IT at hit7 hit0
          clear hD3 hD4 hD5 hD6
          have hR : R ++ [⟨[45], [227, 131, 188], []⟩] ++ [⟨[44], [227, 128, 129], []⟩] ++ [⟨[46], [227, 128, 130], []⟩] ++ [⟨[116, 99], [227, 129, 163], [99]⟩] = R ++ Dflt.fourRules := by simp [Dflt.fourRules]
          rw [hR] at hD7
          clear hR
          have hl4 : (R ++ Dflt.fourRules).length ≤ 310 := by simp [Dflt.fourRules]; omega
          generalize R ++ Dflt.fourRules = R4 at hD7 hun hl4
          clear hDn hl0
          go_loopg [11] 17 (fun kq v wi => ∃ n : Nat, n + kq = 17 ∧ wi.heap[IT]? = some (.stringIter dblB n) ∧ DS w (R4 ++ (Dflt.doubled.take n).map Dflt.dbl) wi)
          case atStart => exact ⟨0, by omega, hit7, by simpa using hD7⟩
          case round =>
            obtain ⟨wo, rfl⟩ : ∃ wo : World, wo = wr := ⟨_, rfl⟩
            obtain ⟨n, hn, hit, hDi⟩ := hrel
            have hz : dblB.size = 17 := rfl
            have hzl : Dflt.doubled.length = 17 := rfl
            by_cases hn17 : n < 17
            · have hit2 := Lib.iterAt_heap wo IT dblB n (n + 1) hit
              have hDi2 := hDi.iterAt hit (by omega) (n + 1)
              obtain ⟨c, hc⟩ : ∃ c, c = Dflt.doubled[n]'(by omega) := ⟨_, rfl⟩
              have hcb : dblB[n]'(by omega) = c := by rw [hc]; exact dbl_at ⟨n, hn17⟩
              have hck : Kp.isKey c = true := dbl_key c (by rw [hc]; exact List.getElem_mem _)
              have hca : c.toNat < 128 := by unfold Kp.isKey at hck; simp at hck; omega
              have hnx : ∀ ty, (Instr.next (.pointer (some ⟨IT, 0, none⟩)) true ty).run Tryz.prog wo = _ := fun ty => Lib.run_next_ascii_at wo IT dblB n ty hit (by omega) (by rw [hcb]; exact hca)
              rw [hcb] at hnx
              have htake : (Dflt.doubled.take (n + 1)).map Dflt.dbl = (Dflt.doubled.take n).map Dflt.dbl ++ [Dflt.dbl c] := by rw [List.take_succ_eq_append_getElem (by omega), List.map_append, ← hc]; rfl
              have henc : Utf8.encode (c.toNat : Int) = ⟨#[c]⟩ := by have h := enc_key c hck; rwa [show wrap32 (c.toNat : Int) = c.toNat by unfold wrap32; omega] at h
              have hadd : ∀ W : World, (Op.stringOp .add ⟨#[c]⟩ ⟨#[c]⟩).run Tryz.prog W = .ok (.string ⟨#[c, c]⟩) W := fun W => add_strs W [c] [c] (by simp) (by simp)
              have hln : (R4 ++ (Dflt.doubled.take n).map Dflt.dbl).length ≤ 400 := by simp; omega
              generalize wo.iterAt IT dblB (n + 1) = W1 at hit2 hDi2 hnx
              generalize (Dflt.doubled.take n).map Dflt.dbl = D at hln hDi2 htake
              clear hit hDi hcb hc
              go_wp2_with fail
              refine (add_dsK w _ [c, c] [227, 129, 163] [c] W1 hDi2 (by omega)).mono ?_
              rintro e w8 ⟨rfl, hD8, hk8⟩
              have hit8 := hk8.iter hit2 (by omega)
              go_wp2_with fail
              go_roundg (gk - 1)
              case rel => exact ⟨n + 1, by omega, hit8, by rw [htake, ← List.append_assoc]; exact hD8⟩
              case measure => omega
            · have hnx : ∀ ty, (Instr.next (.pointer (some ⟨IT, 0, none⟩)) true ty).run Tryz.prog wo = _ := fun ty => Lib.run_next_end_at wo IT dblB n ty hit (by omega)
              obtain rfl : n = 17 := by omega
              rw [show Dflt.doubled.take 17 = Dflt.doubled from rfl, ← hun] at hDi
              have hul : Dflt.unsorted.length = 162 := by decide +kernel
              obtain ⟨⟨v, hcell, hown, hne⟩, hbel, -⟩ := hDi
              obtain ⟨g, cap, rfl⟩ : ∃ g cap, v = .slice (some ⟨g, 0, none⟩) 162 cap := by
                rcases hown.2 with ⟨_, h0⟩ | ⟨g, cap, cur, hv, _⟩
                · omega
                · exact ⟨g, cap, by rw [hv, hul]⟩
              have c0 : wo.cell? ⟨w.heap.size, 0, none⟩ = some (.slice (some ⟨g, 0, none⟩) 162 cap) := by rw [Lib.cell_of_heap hcell]; rfl
              rw [hul] at hown
              have hg := hown.lt g rfl
              have hne' : g ≠ w.heap.size := fun e => hne (by simp [Value.ownBlock, e])
              have hsort := sort_any w.heap.size g cap wo hown
              have hlt := (Array.getElem?_eq_some_iff.1 hcell).1
              go_wp2_with fail
              refine hsort.mono ?_
              rintro e w9 ⟨rfl, hg9, hcells⟩
              have c9 : w9.cell? ⟨w.heap.size, 0, none⟩ = some (.slice (some ⟨g, 0, none⟩) 162 cap) := by rw [Lib.cell_of_heap ((hg9.block _ hlt (fun e => hne' (Option.some.inj e).symm)).trans hcell)]; rfl
              go_wp2_with fail
              go_ret
              exact ⟨g, cap, rfl, hg.1, hbel.grown hg9 (by omega) (fun k hk => by cases hk; exact hg.1), hcells⟩
end Go.Proofs.YtmnbhjijphlanaaGreatDoor
