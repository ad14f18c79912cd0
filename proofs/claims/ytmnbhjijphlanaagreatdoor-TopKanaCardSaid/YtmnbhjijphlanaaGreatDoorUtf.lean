/-
  Whether a text is kana, whether it is keys, whether a rule is allowed.
-/
import Derived.Test.YtmnbhjijphlanaaGreatDoorDefault
import Derived.Shelf.Strings.SlTrimAscii
import Derived.Laws.IdiomStrings
namespace Go.Proofs.YtmnbhjijphlanaaGreatDoor
open Go.RowKit Mp Go.Shelf

def Tabs (w : World) : Prop := Lib.Utf8Tabs 0 1 w
theorem valid_any (s : ByteArray) (w : World) (hs : s.size ≤ 9223372036854775807) (hT : Tabs w) :
    Calls Tryz.prog 44 #[.string s] w fun e w' => e = .returned (.bool (Lib.validD s.data.toList)) ∧ Below w.heap.size w w' := Any.utf8_ValidString Tryz.laysValid s w hs hT

theorem count_any (s : ByteArray) (w : World) (hs : s.size < 9223372036854775807) (hT : Tabs w) (hv : Lib.validD s.data.toList = true) :
    Calls Tryz.prog 20 #[.string s] w fun e w' => e = .returned (.int .i64 (Lib.runeCount s)) ∧ Below w.heap.size w w' := by
  have hval := valid_any s w (by omega) hT
  rw [hv] at hval
  have hrc := fun W => Tryz.utf8_RuneCountInString s W hs
  generalize Lib.runeCount s = rc at hrc ⊢
  go_enter Tryz.func20, Tryz.ntmps20
  go_wp2_with (first
    | (go_at_call 44; refine hval.mono ?_; rintro e w1 ⟨rfl, hb1⟩)
    | (go_at_call 45; refine (hrc _).mono ?_; rintro e w2 ⟨rfl, pos, rfl⟩))
  go_ret
  exact ⟨rfl, hb1.alloc hb1.size _⟩

theorem validF_any (s : ByteArray) (w : World) (hs : s.size ≤ 9223372036854775807) (hT : Tabs w) :
    Calls Tryz.prog 32 #[.string s] w fun e w' => e = .returned (.bool (Lib.validD s.data.toList)) ∧ Below w.heap.size w w' := by
  have hval := valid_any s w (by omega) hT
  generalize Lib.validD s.data.toList = V at hval ⊢
  go_enter Tryz.func32, Tryz.ntmps32
  go_wp2_with (go_at_call 44; refine hval.mono ?_; rintro e w1 ⟨rfl, hb1⟩)
  go_ret
  exact ⟨rfl, hb1⟩

/-- a character of kana -/
def kanaC (c : Int) : Bool := (decide (12353 ≤ c) && decide (c ≤ 12438)) || decide (c = 12540) || decide (c = 12289) || decide (c = 12290)
theorem isKana1_any (c : Int) (w : World) (h : kanaC c = true) : Calls Tryz.prog 82 #[.int .i32 c] w fun e w' => e = .returned (.bool false) ∧ w = w' := by
  unfold kanaC at h
  simp only [Bool.or_eq_true, Bool.and_eq_true, decide_eq_true_eq] at h
  rcases h with ((⟨h1, h2⟩ | rfl) | rfl) | rfl
  all_goals (
    go_enter Tryz.func82, Tryz.ntmps82
    go_wp2
    go_ret
    exact ⟨by simp; try omega, rfl⟩)

/-- the runes of a text, as values -/
def runesV (s : ByteArray) : Array Value := Conv.runesFrom s s.size 0 #[]
def kanaV : Value → Bool
  | .int .i32 c => kanaC c
  | _ => false
theorem kanaV_is {v : Value} (h : kanaV v = true) : ∃ c, v = .int .i32 c ∧ kanaC c = true := by
  unfold kanaV at h
  split at h
  · exact ⟨_, rfl, h⟩
  · cases h

theorem runes_any (s : ByteArray) (w : World) (hs : s.size ≤ 1000000) (hT : Tabs w) (hv : Lib.validD s.data.toList = true) (hr : (runesV s).size ≤ 1000000) :
    Calls Tryz.prog 80 #[.string s] w fun e w' => ∃ g cap, e = .returned (.tuple #[.slice (some ⟨g, 0, none⟩) (runesV s).size cap, .bool true]) ∧ Below w.heap.size w w' ∧ ∀ i v, (runesV s)[i]? = some v → w'.cell? ⟨g, i, none⟩ = some v := by
  have hval := valid_any s w (by omega) hT
  rw [hv] at hval
  have hconv := fun W : World => run_runes_of_string (P := Tryz.prog) W 9 134 21 s Tryz.underlying9 Tryz.underlying134 Tryz.underlying21 (by unfold runesV at hr; omega)
  change ∀ W : World, (convert 9 134 (.string s)).run Tryz.prog W = .ok (.slice (some ⟨W.heap.size, 0, none⟩) (runesV s).size (grownCap W (runesV s).size 0 21)) (W.drew.alloc (.cells (runesV s ++ Array.replicate (grownCap W (runesV s).size 0 21 - (runesV s).size) (.int .i32 0)) 21)) at hconv
  generalize runesV s = R at hconv hr ⊢
  go_enter Tryz.func80, Tryz.ntmps80
  go_wp2_with (go_at_call 44; refine hval.mono ?_; rintro e w1 ⟨rfl, hb1⟩)
  go_ret2
  refine ⟨_, _, rfl, (hb1.drew).alloc hb1.size _, ?_⟩
  intro i v hi
  have hlt := (Array.getElem?_eq_some_iff.1 hi).1
  have hn := alloc_new w1 (.cells (R ++ Array.replicate (grownCap w1 R.size 0 21 - R.size) (.int .i32 0)) 21)
  change (w1.alloc (.cells (R ++ Array.replicate (grownCap w1 R.size 0 21 - R.size) (.int .i32 0)) 21)).cell? ⟨w1.heap.size, i, none⟩ = some v
  rw [Lib.cell_of_heap hn, Array.getElem?_append_left hlt]
  exact hi

theorem indexRune_any (g cap : Nat) (R : Array Value) (w : World) (hc : ∀ i v, R[i]? = some v → w.cell? ⟨g, i, none⟩ = some v) (hk : ∀ v ∈ R.toList, kanaV v = true) (hn : R.size ≤ 1000000) :
    Calls Tryz.prog 104 #[.slice (some ⟨g, 0, none⟩) R.size cap, .func (.func 82) #[] #[]] w fun e w' => e = .returned (.int .i64 (-1)) ∧ Below w.heap.size w w' := by
  go_enter Tryz.func104, Tryz.ntmps104
  go_wp2
  go_loopw [8] (fun i wr => ∃ k : Nat, k ≤ R.size ∧ i = .int .i64 k ∧ wr = w) (fun i _ => R.size - (intOf i).toNat)
  case atStart => exact ⟨0, Nat.zero_le _, rfl, rfl⟩
  case round =>
    obtain ⟨k, hkl, rfl, rfl⟩ := hrel
    by_cases hlt : k < R.size
    · obtain ⟨c, hcv, hcc⟩ := kanaV_is (hk R[k] (Array.getElem_mem_toList ..))
      have hcell := hc k R[k] (by simp [hlt])
      rw [hcv] at hcell
      go_wp2_with (go_at_call 82; refine (isKana1_any c _ hcc).mono ?_; rintro e w' ⟨rfl, rfl⟩)
      go_roundw
      case rel => exact ⟨k + 1, by omega, by go_num, trivial⟩
      case measure => simp [intOf]; omega
    · go_wp2
      go_ret
      exact ⟨rfl, Below.refl _ _⟩
theorem containsRune_any (g cap : Nat) (R : Array Value) (w : World) (hc : ∀ i v, R[i]? = some v → w.cell? ⟨g, i, none⟩ = some v) (hk : ∀ v ∈ R.toList, kanaV v = true) (hn : R.size ≤ 1000000) :
    Calls Tryz.prog 81 #[.slice (some ⟨g, 0, none⟩) R.size cap, .func (.func 82) #[] #[]] w fun e w' => e = .returned (.bool false) ∧ Below w.heap.size w w' := by
  have hix := indexRune_any g cap R w hc hk hn
  go_enter Tryz.func81, Tryz.ntmps81
  go_wp2_with (go_at_call 104; refine hix.mono ?_; rintro e w1 ⟨rfl, hb1⟩)
  go_ret
  exact ⟨rfl, hb1⟩

theorem isKana_any (s : ByteArray) (w : World) (hs : s.size ≤ 1000000) (hT : Tabs w) (hv : Lib.validD s.data.toList = true) (hr : (runesV s).size ≤ 4) (hk : ∀ v ∈ (runesV s).toList, kanaV v = true) :
    Calls Tryz.prog 57 #[.string s] w fun e w' => e = .returned (.bool true) ∧ Below w.heap.size w w' := by
  have h1 := runes_any s w hs hT hv (by omega)
  generalize runesV s = R at h1 hr hk
  go_enter Tryz.func57, Tryz.ntmps57
  go_wp2_with (first
    | (go_at_call 80; refine h1.mono ?_; rintro e w1 ⟨g, cap, rfl, hb1, hc1⟩; have hct := containsRune_any g cap R w1 hc1 hk (by omega))
    | (go_at_call 81; refine hct.mono ?_; rintro e w2 ⟨rfl, hb2⟩))
  go_ret
  exact ⟨rfl, hb1.trans (hb2.mono hb1.size)⟩
end Go.Proofs.YtmnbhjijphlanaaGreatDoor
