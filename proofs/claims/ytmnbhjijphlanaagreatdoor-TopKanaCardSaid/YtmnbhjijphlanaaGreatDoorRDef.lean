/-
  Default of the specification of layer 5: the 162 rules of the document.
-/
import Derived.Test.YtmnbhjijphlanaaGreatDoorTable
namespace Go.Proofs.YtmnbhjijphlanaaGreatDoor
open Go.RowKit Mp Go.Lib

namespace RD
def vowel (i : Nat) : UInt8 := [97, 105, 117, 101, 111].getD i 0
def putAll (l : List Kp.Rl) (rs : List Kp.Rl) : List Kp.Rl := rs.foldl Put.ins l
theorem putAll_len (l rs : List Kp.Rl) : (putAll l rs).length = l.length + rs.length := by
  induction rs generalizing l with
  | nil => rfl
  | cons r rs ih => show (putAll (Put.ins l r) rs).length = _; rw [ih, Put.ins_len]; simp; omega
theorem putAll_snoc (l rs : List Kp.Rl) (r : Kp.Rl) : putAll l (rs ++ [r]) = Put.ins (putAll l rs) r := by simp [putAll]
/-- the rules of a row's first i kana -/
def kanaR (r : List Kp.Bs) : Nat → List Kp.Rl
  | 0 => []
  | i + 1 => kanaR r i ++ if word r (i + 1) = [] then [] else [⟨word r 0 ++ [vowel i], word r (i + 1), []⟩]
theorem kanaR_len (r : List Kp.Bs) : ∀ j, (kanaR r j).length ≤ j
  | 0 => Nat.le_refl _
  | j + 1 => by
    have h := kanaR_len r j
    unfold kanaR
    split <;> simp <;> omega
def yL : List Kp.Bs := [[107], [115], [116], [110], [104], [109], [114], [103], [122], [100], [98], [112]]
def yR (r : List Kp.Bs) : List Kp.Rl := if yL.contains (word r 0) then [⟨word r 0 ++ [121, 97], word r 2 ++ [227, 130, 131], []⟩, ⟨word r 0 ++ [121, 117], word r 2 ++ [227, 130, 133], []⟩, ⟨word r 0 ++ [121, 111], word r 2 ++ [227, 130, 135], []⟩] else []
theorem yL_ne {x : Kp.Bs} (h : yL.contains x = false) : (x == [107]) = false ∧ (x == [115]) = false ∧ (x == [116]) = false ∧ (x == [110]) = false ∧ (x == [104]) = false ∧ (x == [109]) = false ∧ (x == [114]) = false ∧ (x == [103]) = false ∧ (x == [122]) = false ∧ (x == [100]) = false ∧ (x == [98]) = false ∧ (x == [112]) = false := by
  unfold yL at h
  simp only [List.contains_cons, List.contains_nil, Bool.or_eq_false_iff] at h
  obtain ⟨a1, a2, a3, a4, a5, a6, a7, a8, a9, a10, a11, a12, -⟩ := h
  exact ⟨a1, a2, a3, a4, a5, a6, a7, a8, a9, a10, a11, a12⟩
theorem yL_eq {x : Kp.Bs} (h : yL.contains x = true) : x = [107] ∨ x = [115] ∨ x = [116] ∨ x = [110] ∨ x = [104] ∨ x = [109] ∨ x = [114] ∨ x = [103] ∨ x = [122] ∨ x = [100] ∨ x = [98] ∨ x = [112] := by
  unfold yL at h
  simp only [List.contains_cons, List.contains_nil, Bool.or_eq_true, beq_iff_eq, Bool.or_false] at h
  exact h
theorem yR_len (r : List Kp.Bs) : (yR r).length ≤ 3 := by unfold yR; split <;> simp
def upTo (k : Nat) : List Kp.Rl := (rtbl.take k).flatMap (fun r => kanaR r 5 ++ yR r)
def nine : List Kp.Rl := [⟨[110], [227, 130, 147], []⟩, ⟨[110, 110], [227, 130, 147], []⟩, ⟨[110, 39], [227, 130, 147], []⟩, ⟨[45], [227, 131, 188], []⟩, ⟨[44], [227, 128, 129], []⟩, ⟨[46], [227, 128, 130], []⟩, ⟨[116, 99], [227, 129, 163], [99]⟩]
def doubled : Kp.Bs := [98, 99, 100, 102, 103, 104, 106, 107, 109, 112, 114, 115, 116, 118, 119, 121, 122]
def dbl (c : UInt8) : Kp.Rl := ⟨[c, c], [227, 129, 163], [c]⟩
theorem dbl_slice (j : Nat) (h : j < 17) (W : World) : (Instr.slice 9 (.string ⟨#[98, 99, 100, 102, 103, 104, 106, 107, 109, 112, 114, 115, 116, 118, 119, 121, 122]⟩) (some (.int .i64 j)) (some (.int .i64 ((j : Int) + 1))) none).run Tryz.prog W = .ok (.string ⟨#[doubled[j]'h]⟩) W := by
  have hd : ∀ i : Fin 17, (⟨#[98, 99, 100, 102, 103, 104, 106, 107, 109, 112, 114, 115, 116, 118, 119, 121, 122]⟩ : ByteArray).extract i.val (i.val + 1) = ⟨#[doubled[i.val]'i.isLt]⟩ := by decide +kernel
  rw [run_slice_string W 9 _ .i64 .i64 (j : Int) ((j : Int) + 1) Tryz.underlying9 (by omega) (by omega) (by rw [show (⟨#[98, 99, 100, 102, 103, 104, 106, 107, 109, 112, 114, 115, 116, 118, 119, 121, 122]⟩ : ByteArray).size = 17 from rfl]; omega)]
  have := hd ⟨j, h⟩
  rw [← this]
  rfl
theorem all_is : putAll [] (upTo 25 ++ nine ++ doubled.map dbl) = Kp.rules := by decide +kernel
theorem upTo_len : ∀ k : Fin 26, (upTo k.val).length ≤ 140 := by decide +kernel
theorem upTo_succ (k : Nat) (hk : k < 25) : upTo (k + 1) = upTo k ++ (kanaR (rtbl.getD k []) 5 ++ yR (rtbl.getD k [])) := by
  have hk' : k < rtbl.length := by rw [tbl_len]; exact hk
  unfold upTo
  rw [List.take_succ_eq_append_getElem hk', List.flatMap_append, List.flatMap_singleton, show rtbl.getD k [] = rtbl[k] by simp [List.getD, hk']]
theorem word_len : ∀ k : Fin 25, ∀ j : Fin 6, (word (rtbl.getD k.val []) j.val).length ≤ 12 := by decide +kernel
def vowB : Array Value := #[.string ⟨#[97]⟩, .string ⟨#[105]⟩, .string ⟨#[117]⟩, .string ⟨#[101]⟩, .string ⟨#[111]⟩]
theorem vow_at (i : Nat) (h : i < 5) : vowB[i]? = some (.string ⟨#[vowel i]⟩) := by
  match i, h with
  | 0, _ => rfl
  | 1, _ => rfl
  | 2, _ => rfl
  | 3, _ => rfl
  | 4, _ => rfl
end RD

/-- while Default goes on: v holds the rules L -/
structure RS (w0 : World) (v : Value) (L : List Kp.Rl) (w : World) : Prop where
  below : Below w0.heap.size w0 w
  vow : w.heap[w0.heap.size]? = some (.cells RD.vowB 9 (0, 0))
  tab : w.heap[w0.heap.size + 1]? = some (.cells RD.tblC 80 (0, 0))
  row : w.ownsRow w0.heap.size 60 3 v L.length (cellsR L)
theorem RS.lt {w0 w : World} {v : Value} {L : List Kp.Rl} (h : RS w0 v L w) : w0.heap.size + 1 < w.heap.size := (Array.getElem?_eq_some_iff.1 h.tab).1
theorem RS.shape {w0 w : World} {v : Value} {L : List Kp.Rl} (h : RS w0 v L w) : ∃ ao cap, v = .slice ao L.length cap := by
  rcases h.row.2 with ⟨rfl, h0⟩ | ⟨g, cap, cur, rfl, _⟩
  · exact ⟨none, 0, by rw [h0]⟩
  · exact ⟨_, _, rfl⟩
theorem RS.later {w0 w w' : World} {v : Value} {L : List Kp.Rl} (h : RS w0 v L w) (hb : Below w.heap.size w w') : RS w0 v L w' := by
  have hlt := h.lt
  refine ⟨h.below.trans (hb.mono (by omega)), (hb.block _ (by omega)).trans h.vow, (hb.block _ (by omega)).trans h.tab, h.row.kept (grown_of_below hb) (by cases v.ownBlock <;> simp)⟩
theorem RS.put {w0 w : World} {ao : Option Addr} {cap : Nat} {L : List Kp.Rl} (h : RS w0 (.slice ao L.length cap) L w) (hl : L.length ≤ 1000) (k o n : Kp.Bs) :
    Calls Tryz.prog 29 #[.slice ao L.length cap, .agg #[.string ⟨k.toArray⟩, .string ⟨o.toArray⟩, .string ⟨n.toArray⟩]] w fun e w' => ∃ ao' cap', e = .returned (.slice ao' (Put.ins L ⟨k, o, n⟩).length cap') ∧ RS w0 (.slice ao' (Put.ins L ⟨k, o, n⟩).length cap') (Put.ins L ⟨k, o, n⟩) w' := by
  have hlt := h.lt
  refine (put_any L ⟨k, o, n⟩ ao cap w hl (row_base h.row (Nat.zero_le _))).mono ?_
  rintro e w' ⟨v', rfl, h1, h2⟩
  have h3 : RS w0 v' (Put.ins L ⟨k, o, n⟩) w' := ⟨h.below.trans (h2.mono (by omega)), (h2.block _ (by omega)).trans h.vow, (h2.block _ (by omega)).trans h.tab, row_base h1 (by omega)⟩
  obtain ⟨ao', cap', rfl⟩ := h3.shape
  exact ⟨ao', cap', rfl, h3⟩
theorem RS.kana {w0 w : World} {v : Value} {L : List Kp.Rl} (h : RS w0 v L w) (i j : Nat) (hi : i < 25) (hj : j < 6) : w.cell? ⟨w0.heap.size + 1, i * 6 + j, none⟩ = some (.string ⟨(RD.word (RD.rtbl.getD i []) j).toArray⟩) := by
  rw [Lib.cell_of_heap h.tab]; exact RD.tblC_at i j hi hj
theorem RS.vowel {w0 w : World} {v : Value} {L : List Kp.Rl} (h : RS w0 v L w) (i : Nat) (hi : i < 5) : w.cell? ⟨w0.heap.size, i, none⟩ = some (.string ⟨#[RD.vowel i]⟩) := by
  rw [Lib.cell_of_heap h.vow]; exact RD.vow_at i hi

theorem addl (W : World) (a b : Kp.Bs) (h : a.length ≤ 100000) (hb : b.length ≤ 100000) : (Op.stringOp .add ⟨a.toArray⟩ ⟨b.toArray⟩).run Tryz.prog W = .ok (.string ⟨(a ++ b).toArray⟩) W := by
  have := run_string_add_sum (P := Tryz.prog) W ⟨a.toArray⟩ ⟨b.toArray⟩ (by simp [ByteArray.size]; omega)
  rwa [ByteArray.mk_append_mk] at this
theorem addk (W : World) (k : Kp.Bs) (c : UInt8) (h : k.length ≤ 100000) : (Op.stringOp .add ⟨k.toArray⟩ ⟨#[c]⟩).run Tryz.prog W = .ok (.string ⟨(k ++ [c]).toArray⟩) W := by
  have := run_string_add_sum (P := Tryz.prog) W ⟨k.toArray⟩ ⟨[c].toArray⟩ (by simp [ByteArray.size]; omega)
  rwa [ByteArray.mk_append_mk] at this
set_option maxRecDepth 100000 in
set_option maxHeartbeats 8000000 in
theorem rdefault_any (w : World) : Calls Tryz.prog 10 #[] w fun e w' => ∃ g cap, e = .returned (.slice (some ⟨g, 0, none⟩) 162 cap) ∧ w.heap.size ≤ g ∧ Below w.heap.size w w' ∧ ∀ j u, (cellsR Kp.rules)[j]? = some u → w'.cell? ⟨g, j, none⟩ = some u := by
  go_enter Tryz.func10, Tryz.ntmps10
  go_wp2_with (go_at_call 28; refine (table_any _).mono ?_; rintro e w1 ⟨rfl, rfl⟩)
  go_loopw [2, 4] (fun v i wr => ∃ (k : Nat) (ao : Option Addr) (cap n : Nat), k ≤ 25 ∧ i = .int .i64 k ∧ v = .slice ao n cap ∧ n = (RD.putAll [] (RD.upTo k)).length ∧ RS w (.slice ao (RD.putAll [] (RD.upTo k)).length cap) (RD.putAll [] (RD.upTo k)) wr) (fun _ i _ => 25 - (intOf i).toNat)
  case atStart =>
    refine ⟨0, none, 0, 0, by omega, rfl, rfl, rfl, ?_, ?_, ?_, World.ownsRow_nil _ _ _ _⟩
    · exact ((Below.refl _ _).alloc (Nat.le_refl _) _).alloc (by simp) _
    · rw [Below.heap_alloc _ _ _ (by simp)]; exact alloc_new w _
    · have h := alloc_new (w.alloc (.cells RD.vowB 9)) (.cells RD.tblC 80)
      simpa [RD.vowB] using h
  case round =>
    obtain ⟨k, ao, cap, n, hk, rfl, rfl, rfl, hS⟩ := hrel
    by_cases hlt : k < 25
    · obtain ⟨r, hr⟩ : ∃ r, r = RD.rtbl.getD k [] := ⟨_, rfl⟩
      have hup : RD.putAll [] (RD.upTo (k + 1)) = RD.putAll (RD.putAll [] (RD.upTo k)) (RD.kanaR r 5 ++ RD.yR r) := by rw [RD.upTo_succ k hlt, hr]; simp [RD.putAll]
      have hL : (RD.putAll [] (RD.upTo k)).length ≤ 140 := by rw [RD.putAll_len]; have := RD.upTo_len ⟨k, by omega⟩; simpa using this
      have hkan : ∀ (v : Value) (L : List Kp.Rl) (W : World), RS w v L W → ∀ j, j < 6 → W.cell? ⟨w.heap.size + 1, k * 6 + j, none⟩ = some (.string ⟨(RD.word r j).toArray⟩) := fun v L W h j hj => by rw [hr]; exact h.kana k j hlt hj
      have hwl : ∀ j, j < 6 → (RD.word r j).length ≤ 12 := fun j hj => by rw [hr]; exact RD.word_len ⟨k, hlt⟩ ⟨j, hj⟩
      have HU := Lib.hid hup
      clear hup hr
      have hdk : decide ((k : Int) < 25) = true := by simp; omega
      generalize RD.putAll [] (RD.upTo k) = L at hS hL HU ⊢
      go_wp2_with fail
      clear hdk
      have hki : (k : Int) < 25 := by omega
      go_loopw [2, 5] (fun v i wi => ∃ (j : Nat) (ao : Option Addr) (cap n : Nat), j ≤ 5 ∧ i = .int .i64 j ∧ v = .slice ao n cap ∧ n = (RD.putAll L (RD.kanaR r j)).length ∧ RS w (.slice ao (RD.putAll L (RD.kanaR r j)).length cap) (RD.putAll L (RD.kanaR r j)) wi) (fun _ i _ => 5 - (intOf i).toNat)
      case atStart => exact ⟨0, ao, cap, _, by omega, rfl, rfl, rfl, hS⟩
      case round =>
        obtain ⟨wo, rfl⟩ : ∃ wo : World, wo = wr := ⟨_, rfl⟩
        obtain ⟨j, ao, cap, n, hj, rfl, rfl, rfl, hSi⟩ := hrel
        by_cases hjl : j < 5
        · have hc0 : wo.cell? ⟨w.heap.size + 1, k * 6, none⟩ = _ := hkan _ _ _ hSi 0 (by omega)
          have hcj := hkan _ _ _ hSi (1 + j) (by omega)
          rw [← Nat.add_assoc] at hcj
          have hcv := hSi.vowel j hjl
          have hx0m := hwl 0 (by omega)
          obtain ⟨x0, hx0⟩ : ∃ x, x = RD.word r 0 := ⟨_, rfl⟩
          obtain ⟨x, hx⟩ : ∃ x, x = RD.word r (j + 1) := ⟨_, rfl⟩
          rw [← hx0] at hc0 hx0m
          rw [Nat.add_comm 1 j, ← hx] at hcj
          have hkl := RD.kanaR_len r j
          have hLl : (RD.putAll L (RD.kanaR r j)).length ≤ 150 := by rw [RD.putAll_len]; omega
          cases hxx : x == [] with
          | true =>
            have hend : RD.kanaR r (j + 1) = RD.kanaR r j := by rw [RD.kanaR, ← hx, if_pos (by simpa using hxx), List.append_nil]
            have HE := Lib.hid hend
            have hxe : x = [] := by simpa using hxx
            subst hxe
            clear hend hx hx0 hxx hc0 hcv
            go_wp2_with fail
            go_roundw
            case rel => exact ⟨j + 1, ao, cap, _, by omega, by go_num, rfl, by rw [HE.out], by rw [HE.out]; exact hSi⟩
            case measure => simp [intOf]; omega
          | false =>
            have hend : RD.kanaR r (j + 1) = RD.kanaR r j ++ [⟨x0 ++ [RD.vowel j], x, []⟩] := by rw [RD.kanaR, ← hx, ← hx0, if_neg (by simpa using hxx)]
            have HE := Lib.hid hend
            have hx1 : x.isEmpty = false := by cases x with | nil => simp at hxx | cons a b => rfl
            have hx2 : ¬ x = [] := by simpa using hxx
            clear hend hx hx0
            have hadd : ∀ W : World, (Op.stringOp .add ⟨x0.toArray⟩ ⟨#[RD.vowel j]⟩).run Tryz.prog W = .ok (.string ⟨(x0 ++ [RD.vowel j]).toArray⟩) W := fun W => addk W x0 _ (by omega)
            generalize hD : RD.putAll L (RD.kanaR r j) = D at hSi hLl ⊢
            have HD := Lib.hid hD
            clear hD
            go_wp2_with fail
            go_still_tail 19, (by kernel_rfl)
            change wpList _ _ _ _ _ wo.drew
            have hSd := hSi.later (Below.refl _ _).drew
            go_wp2_with (go_at_call 29; refine (hSd.put (by omega) (x0 ++ [RD.vowel j]) x []).mono ?_; rintro e w3 ⟨ao', cap', rfl, hS3⟩)
            have he : RD.putAll L (RD.kanaR r (j + 1)) = Put.ins D ⟨x0 ++ [RD.vowel j], x, []⟩ := by rw [HE.out, RD.putAll_snoc, HD.out]
            have HF := Lib.hid he
            clear he
            go_roundw
            case rel => exact ⟨j + 1, ao', cap', _, by omega, by go_num, rfl, by rw [HF.out], by rw [HF.out]; exact hS3⟩
            case measure => simp [intOf]; omega
        · obtain rfl : j = 5 := by omega
          have hc0 : wo.cell? ⟨w.heap.size + 1, k * 6, none⟩ = _ := hkan _ _ _ hSi 0 (by omega)
          have hx0m := hwl 0 (by omega)
          have hx2m := hwl 2 (by omega)
          have hk2 : ∀ (v : Value) (M : List Kp.Rl) (W : World), RS w v M W → W.cell? ⟨w.heap.size + 1, k * 6 + 1 + 1, none⟩ = _ := fun v M W h => hkan v M W h 2 (by omega)
          obtain ⟨x0, hx0⟩ : ∃ x, x = RD.word r 0 := ⟨_, rfl⟩
          obtain ⟨x, hx⟩ : ∃ x, x = RD.word r 2 := ⟨_, rfl⟩
          rw [← hx0] at hc0 hx0m
          rw [← hx] at hk2 hx2m
          have hLl : (RD.putAll L (RD.kanaR r 5)).length ≤ 150 := by rw [RD.putAll_len]; have := RD.kanaR_len r 5; omega
          have hyR : RD.yR r = if RD.yL.contains x0 then [⟨x0 ++ [121, 97], x ++ [227, 130, 131], []⟩, ⟨x0 ++ [121, 117], x ++ [227, 130, 133], []⟩, ⟨x0 ++ [121, 111], x ++ [227, 130, 135], []⟩] else [] := by rw [RD.yR, ← hx0, ← hx]
          have hput : RD.putAll L (RD.kanaR r 5 ++ RD.yR r) = RD.putAll (RD.putAll L (RD.kanaR r 5)) (RD.yR r) := by simp [RD.putAll]
          have HY := Lib.hid hyR
          have HP := Lib.hid hput
          clear hyR hput hx0 hx
          generalize RD.putAll L (RD.kanaR r 5) = D at hSi hLl HP ⊢
          go_upto_region 13 with fail
          go_cut [100] (fun c wx => c = .bool (RD.yL.contains x0) ∧ wx = wo)
          case first =>
            cases hyb : RD.yL.contains x0 with
            | false =>
              obtain ⟨n1, n2, n3, n4, n5, n6, n7, n8, n9, n10, n11, n12⟩ := RD.yL_ne hyb
              have HB := Lib.hid hyb
              clear hyb
              go_wp2_with fail
              go_meet
              exact ⟨by rw [HB.out], rfl⟩
            | true =>
              have hye := RD.yL_eq hyb
              clear hyb HY hk2 hkan hwl
              rcases hye with rfl | rfl | rfl | rfl | rfl | rfl | rfl | rfl | rfl | rfl | rfl | rfl
              all_goals
                go_wp2_with fail
                go_meet
                exact ⟨rfl, rfl⟩
          case rest =>
            obtain ⟨rfl, rfl⟩ := hcut
            cases hyb : RD.yL.contains x0 with
            | false =>
              have he : RD.putAll L (RD.kanaR r 5 ++ RD.yR r) = D := by rw [HP.out, HY.out, hyb]; rfl
              have HF := Lib.hid he
              clear he hyb
              go_wp2_with fail
              go_roundw
              case rel => exact ⟨k + 1, ao, cap, _, by omega, by go_num, rfl, by rw [HU.out, HF.out], by rw [HU.out, HF.out]; exact hSi⟩
              case measure => simp [intOf]; omega
            | true =>
              have he : RD.putAll L (RD.kanaR r 5 ++ RD.yR r) = Put.ins (Put.ins (Put.ins D ⟨x0 ++ [121, 97], x ++ [227, 130, 131], []⟩) ⟨x0 ++ [121, 117], x ++ [227, 130, 133], []⟩) ⟨x0 ++ [121, 111], x ++ [227, 130, 135], []⟩ := by rw [HP.out, HY.out, hyb]; rfl
              have HF := Lib.hid he
              clear he hyb
              have hadd := fun (W : World) (a : UInt8) => addl W x0 [121, a] (by omega) (by simp)
              have hadd2 := fun (W : World) (a : UInt8) => addl W x [227, 130, a] (by omega) (by simp)
              have d2 := hk2 _ _ _ hSi
              go_wp2_with fail
              refine (hSi.put (by omega) (x0 ++ [121, 97]) (x ++ [227, 130, 131]) []).mono ?_
              rintro e w3 ⟨ao3, cap3, rfl, hS3⟩
              have hl3 : (Put.ins D ⟨x0 ++ [121, 97], x ++ [227, 130, 131], []⟩).length ≤ 151 := by rw [Put.ins_len]; omega
              generalize hD1 : Put.ins D ⟨x0 ++ [121, 97], x ++ [227, 130, 131], []⟩ = D1 at hS3 hl3 ⊢
              have HD1 := Lib.hid hD1
              clear hD1
              have d3 := hk2 _ _ _ hS3
              go_wp2_with fail
              refine (hS3.put (by omega) (x0 ++ [121, 117]) (x ++ [227, 130, 133]) []).mono ?_
              rintro e w4 ⟨ao4, cap4, rfl, hS4⟩
              have hl4 : (Put.ins D1 ⟨x0 ++ [121, 117], x ++ [227, 130, 133], []⟩).length ≤ 152 := by rw [Put.ins_len]; omega
              generalize hD2 : Put.ins D1 ⟨x0 ++ [121, 117], x ++ [227, 130, 133], []⟩ = D2 at hS4 hl4 ⊢
              have HD2 := Lib.hid hD2
              clear hD2
              have d4 := hk2 _ _ _ hS4
              go_wp2_with fail
              refine (hS4.put (by omega) (x0 ++ [121, 111]) (x ++ [227, 130, 135]) []).mono ?_
              rintro e w5 ⟨ao5, cap5, rfl, hS5⟩
              go_wp2_with fail
              go_roundw
              case rel => exact ⟨k + 1, ao5, cap5, _, by omega, by go_num, rfl, by rw [HU.out, HF.out, HD1.out, HD2.out], by rw [HU.out, HF.out, HD1.out, HD2.out]; exact hS5⟩
              case measure => simp [intOf]; omega
    · have hk25 : k = 25 := by omega
      subst hk25
      have hall : RD.putAll (RD.putAll [] (RD.upTo 25)) (RD.nine ++ RD.doubled.map RD.dbl) = Kp.rules := by rw [← RD.all_is]; simp [RD.putAll]
      have hL : (RD.putAll [] (RD.upTo 25)).length ≤ 140 := by rw [RD.putAll_len]; have := RD.upTo_len ⟨25, by omega⟩; simpa using this
      have HA := Lib.hid hall
      clear hall hlt hk
      generalize RD.putAll [] (RD.upTo 25) = L at hS hL HA ⊢
      have hn9 : RD.putAll L RD.nine = Put.ins (Put.ins (Put.ins (Put.ins (Put.ins (Put.ins (Put.ins L ⟨[110], [227, 130, 147], []⟩) ⟨[110, 110], [227, 130, 147], []⟩) ⟨[110, 39], [227, 130, 147], []⟩) ⟨[45], [227, 131, 188], []⟩) ⟨[44], [227, 128, 129], []⟩) ⟨[46], [227, 128, 130], []⟩) ⟨[116, 99], [227, 129, 163], [99]⟩ := rfl
      have H9 := Lib.hid hn9
      clear hn9
      go_wp2_with fail
      refine (hS.put (by omega) [110] [227, 130, 147] []).mono ?_
      rintro e w2 ⟨ao2, cap2, rfl, hS2⟩
      have hl2 : (Put.ins L ⟨[110], [227, 130, 147], []⟩).length ≤ 141 := by rw [Put.ins_len]; omega
      generalize hD2 : Put.ins L ⟨[110], [227, 130, 147], []⟩ = L2 at hS2 hl2 ⊢
      have HD2 := Lib.hid hD2
      clear hD2
      go_wp2_with fail
      refine (hS2.put (by omega) [110, 110] [227, 130, 147] []).mono ?_
      rintro e w3 ⟨ao3, cap3, rfl, hS3⟩
      have hl3 : (Put.ins L2 ⟨[110, 110], [227, 130, 147], []⟩).length ≤ 142 := by rw [Put.ins_len]; omega
      generalize hD3 : Put.ins L2 ⟨[110, 110], [227, 130, 147], []⟩ = L3 at hS3 hl3 ⊢
      have HD3 := Lib.hid hD3
      clear hD3
      go_wp2_with fail
      refine (hS3.put (by omega) [110, 39] [227, 130, 147] []).mono ?_
      rintro e w4 ⟨ao4, cap4, rfl, hS4⟩
      have hl4 : (Put.ins L3 ⟨[110, 39], [227, 130, 147], []⟩).length ≤ 143 := by rw [Put.ins_len]; omega
      generalize hD4 : Put.ins L3 ⟨[110, 39], [227, 130, 147], []⟩ = L4 at hS4 hl4 ⊢
      have HD4 := Lib.hid hD4
      clear hD4
      go_wp2_with fail
      refine (hS4.put (by omega) [45] [227, 131, 188] []).mono ?_
      rintro e w5 ⟨ao5, cap5, rfl, hS5⟩
      have hl5 : (Put.ins L4 ⟨[45], [227, 131, 188], []⟩).length ≤ 144 := by rw [Put.ins_len]; omega
      generalize hD5 : Put.ins L4 ⟨[45], [227, 131, 188], []⟩ = L5 at hS5 hl5 ⊢
      have HD5 := Lib.hid hD5
      clear hD5
      go_wp2_with fail
      refine (hS5.put (by omega) [44] [227, 128, 129] []).mono ?_
      rintro e w6 ⟨ao6, cap6, rfl, hS6⟩
      have hl6 : (Put.ins L5 ⟨[44], [227, 128, 129], []⟩).length ≤ 145 := by rw [Put.ins_len]; omega
      generalize hD6 : Put.ins L5 ⟨[44], [227, 128, 129], []⟩ = L6 at hS6 hl6 ⊢
      have HD6 := Lib.hid hD6
      clear hD6
      go_wp2_with fail
      refine (hS6.put (by omega) [46] [227, 128, 130] []).mono ?_
      rintro e w7 ⟨ao7, cap7, rfl, hS7⟩
      have hl7 : (Put.ins L6 ⟨[46], [227, 128, 130], []⟩).length ≤ 146 := by rw [Put.ins_len]; omega
      generalize hD7 : Put.ins L6 ⟨[46], [227, 128, 130], []⟩ = L7 at hS7 hl7 ⊢
      have HD7 := Lib.hid hD7
      clear hD7
      go_wp2_with fail
      refine (hS7.put (by omega) [116, 99] [227, 129, 163] [99]).mono ?_
      rintro e w8 ⟨ao8, cap8, rfl, hS8⟩
      have hl8 : (Put.ins L7 ⟨[116, 99], [227, 129, 163], [99]⟩).length ≤ 147 := by rw [Put.ins_len]; omega
      generalize hD8 : Put.ins L7 ⟨[116, 99], [227, 129, 163], [99]⟩ = L8 at hS8 hl8 ⊢
      have HD8 := Lib.hid hD8
      clear hD8
      go_wp2_with fail
      have h9 : RD.putAll L RD.nine = L8 := by rw [H9.out, HD2.out, HD3.out, HD4.out, HD5.out, HD6.out, HD7.out, HD8.out]
      have hend : RD.putAll L8 (RD.doubled.map RD.dbl) = Kp.rules := by rw [← HA.out, ← h9]; simp [RD.putAll]
      have HN := Lib.hid hend
      clear h9 hend H9 HA HD2 HD3 HD4 HD5 HD6 HD7 HD8 hS2 hS3 hS4 hS5 hS6 hS7
      go_loopw [2, 8] (fun v i wi => ∃ (j : Nat) (ao : Option Addr) (cap n : Nat), j ≤ 17 ∧ i = .int .i64 j ∧ v = .slice ao n cap ∧ n = (RD.putAll L8 ((RD.doubled.take j).map RD.dbl)).length ∧ RS w (.slice ao (RD.putAll L8 ((RD.doubled.take j).map RD.dbl)).length cap) (RD.putAll L8 ((RD.doubled.take j).map RD.dbl)) wi) (fun _ i _ => 17 - (intOf i).toNat)
      case atStart => exact ⟨0, ao8, cap8, _, by omega, rfl, rfl, rfl, hS8⟩
      case round =>
        obtain ⟨wo, rfl⟩ : ∃ wo : World, wo = wr := ⟨_, rfl⟩
        obtain ⟨j, ao, cap, n, hj, rfl, rfl, rfl, hSi⟩ := hrel
        by_cases hjl : j < 17
        · have hjl' : j < RD.doubled.length := hjl
          have hLl : (RD.putAll L8 ((RD.doubled.take j).map RD.dbl)).length ≤ 170 := by rw [RD.putAll_len]; simp; omega
          have hnext : RD.putAll L8 ((RD.doubled.take (j + 1)).map RD.dbl) = Put.ins (RD.putAll L8 ((RD.doubled.take j).map RD.dbl)) (RD.dbl RD.doubled[j]) := by
            rw [List.take_succ_eq_append_getElem hjl', List.map_append, List.map_singleton, RD.putAll_snoc]
          have hsl := RD.dbl_slice j hjl
          generalize RD.doubled[j] = c at hnext hsl
          have HX := Lib.hid hnext
          clear hnext hjl'
          have hadd : ∀ W : World, (Op.stringOp .add ⟨#[c]⟩ ⟨#[c]⟩).run Tryz.prog W = .ok (.string ⟨#[c, c]⟩) W := fun W => addl W [c] [c] (by simp) (by simp)
          have hwr : IntKind.i64.wrap ((j : Int) + 1) = (j : Int) + 1 := wrap_small _ (by omega) (by omega)
          have hja : (j : Int) < 17 := by omega
          generalize hD : RD.putAll L8 ((RD.doubled.take j).map RD.dbl) = D at hSi hLl ⊢
          have HD := Lib.hid hD
          clear hD
          go_wp2_with fail
          refine (hSi.put (by omega) [c, c] [227, 129, 163] [c]).mono ?_
          rintro e w3 ⟨ao3, cap3, rfl, hS3⟩
          go_wp2_with fail
          have he : RD.putAll L8 ((RD.doubled.take (j + 1)).map RD.dbl) = Put.ins D ⟨[c, c], [227, 129, 163], [c]⟩ := by rw [HX.out, HD.out]; rfl
          have HF := Lib.hid he
          clear he
          go_roundw
          case rel => exact ⟨j + 1, ao3, cap3, _, by omega, by go_num, rfl, by rw [HF.out], by rw [HF.out]; exact hS3⟩
          case measure => simp [intOf]; omega
        · obtain rfl : j = 17 := by omega
          have he : RD.putAll L8 ((RD.doubled.take 17).map RD.dbl) = Kp.rules := HN.out
          rw [he] at hSi ⊢
          clear he
          rw [Kp.rules_len] at hSi ⊢
          obtain ⟨g, rfl, hg0, hg1, hcells⟩ := slice_cell (by have := hSi.row; rw [Kp.rules_len] at this; exact this) (by omega)
          go_wp2_with fail
          go_ret
          exact ⟨g, cap, rfl, hg0, hSi.below, hcells⟩
end Go.Proofs.YtmnbhjijphlanaaGreatDoor
