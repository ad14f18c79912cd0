/-
  TopKana walked.
-/
import Derived.Test.YtmnbhjijphlanaaGreatDoorTop1
namespace Go.Proofs.YtmnbhjijphlanaaGreatDoor
open Go.RowKit Mp Go.Shelf Go.Lib

/-- what is known behind the set-up: the automaton, the kana -/
structure TS (W : World) (a br bp bk cp gk : Nat) (PM : List (Kp.Bs × Bool)) (w : World) : Prop where
  below : Below W.heap.size W w
  auto : AutoAt W.heap.size w a br bp bk cp PM
  tabs : Tabs w
  kana : ∀ k, (h : k < Kp.kanaL.length) → w.cell? ⟨gk, k, none⟩ = some (.string ⟨(Kp.kanaL[k]).toArray⟩)
theorem TS.later {W w w' : World} {a br bp bk cp gk : Nat} {PM : List (Kp.Bs × Bool)} (h : TS W a br bp bk cp gk PM w) (hb : Below w.heap.size w w') : TS W a br bp bk cp gk PM w' := by
  refine ⟨h.below.trans (hb.mono h.below.size), h.auto.below hb h.below.size, Utf8Tabs_below h.tabs hb, fun k hk => ?_⟩
  have h1 := h.kana k hk
  rw [hb.cell (cell_lt h1)]
  exact h1
/-- what the first loop knows: the text so far, and keys for it -/
structure LS (k : Nat) (s W : Kp.Bs) (cs : List Kp.Bs) : Prop where
  len : cs.length = k
  kt : Kp.Kt s cs
  feeds : Kp.Feeds [] W s []
  keys : ∀ c ∈ W, c ∈ Kp.akeys
  short : W.length ≤ 3 * k
theorem LS.start : LS 0 [] [] [] := ⟨rfl, Kp.Kt.nil, .nil [], by simp, by simp⟩
theorem LS.step {k : Nat} {s W c K : Kp.Bs} {cs : List Kp.Bs} (h : LS k s W cs) (hc : c ∈ Kp.kanaL) (hK : Kp.Feeds [] K c []) (hk : ∀ b ∈ K, Kp.isKey b = true) (hl : K.length ≤ 3) : LS (k + 1) (s ++ c) (W ++ K) (cs ++ [c]) := by
  refine ⟨by simp [h.len], h.kt.append (Kp.Kt.one hc), h.feeds.append hK, fun b hb => ?_, by have := h.short; simp; omega⟩
  rcases List.mem_append.1 hb with hb | hb
  · exact h.keys b hb
  · exact Kp.feeds_akeys hK hk (Kp.Kt.one hc).noKey b hb

/-- while the keys are typed into a buffer: it lies in the block behind Wb -/
structure BS (Wb : World) (K : Kp.Bs) (i : Nat) (l : List It) (o q : Kp.Bs) (os : List Kp.Bs) (ao : Option Addr) (cap : Nat) (w : World) : Prop where
  below : Below Wb.heap.size Wb w
  blk : w.heap[Wb.heap.size]? = some (.cells #[.slice ao l.length cap, .int .i64 l.length, .string ⟨q.toArray⟩] 40 (0, 0))
  row : w.ownsRow (Wb.heap.size + 1) 90 2 (.slice ao l.length cap) l.length (cellsI l)
  feeds : Kp.Feeds [] (K.take i) o q
  kt : Kp.Kt o os
  outs : l.map (·.2) = os
  ok : ∀ x ∈ l, okItem x
theorem BS.start (Wb : World) (K : Kp.Bs) : BS Wb K 0 [] [] [] [] none 0 (Wb.alloc (.cells #[.slice none 0 0, .int .i64 0, .string ⟨#[]⟩] 40)) :=
  ⟨(Below.refl _ _).alloc (Nat.le_refl _) _, alloc_new _ _, World.ownsRow_nil _ _ _ _, .nil [], Kp.Kt.nil, rfl, by simp⟩
/-- behind Insert: the new buffer in block g -/
structure NB (Wb : World) (x : Array Value) (g : Nat) (ao : Option Addr) (cap : Nat) (q : Kp.Bs) (L : List It) (w : World) : Prop where
  below : Below Wb.heap.size Wb w
  blk0 : w.heap[Wb.heap.size]? = some (.cells x 40 (0, 0))
  gt : Wb.heap.size < g
  blk : w.heap[g]? = some (.cells #[.slice ao L.length cap, .int .i64 L.length, .string ⟨q.toArray⟩] 40 (0, 0))
  row : w.ownsRow (Wb.heap.size + 1) 90 2 (.slice ao L.length cap) L.length (cellsI L)
  ne : (Value.slice ao L.length cap).ownBlock ≠ some g
theorem NB.late {Wb X W W' : World} {x : Array Value} {ao : Option Addr} {cap : Nat} {q : Kp.Bs} {L : List It} (h1 : Below Wb.heap.size Wb W) (h2 : W.heap[Wb.heap.size]? = some (.cells x 40 (0, 0))) (hb : Below W.heap.size W W') (hrow : W'.ownsRow X.heap.size 90 2 (.slice ao L.length cap) L.length (cellsI L)) (hX : Wb.heap.size < X.heap.size) :
    NB Wb x W'.heap.size ao cap q L (W'.alloc (.cells #[.slice ao L.length cap, .int .i64 L.length, .string ⟨q.toArray⟩] 40)) := by
  have hlt := (Array.getElem?_eq_some_iff.1 h2).1
  have hs := hb.size
  have hbw : Below Wb.heap.size Wb W' := h1.trans (hb.mono h1.size)
  have h2' := (hb.block _ hlt).trans h2
  exact ⟨hbw.alloc hbw.size _, (Below.heap_alloc W' _ _ (by omega)).trans h2', by omega, alloc_new _ _, (row_base hrow (by omega)).alloc _, fun e => by have := (hrow.lt _ e).2; omega⟩
theorem NB.early {Wb X W W' : World} {x z : Array Value} {g : Nat} {ao : Option Addr} {cap : Nat} {q : Kp.Bs} {L : List It} (h1 : Below Wb.heap.size Wb W) (h2 : W.heap[Wb.heap.size]? = some (.cells x 40 (0, 0))) (hb : Below W.heap.size W W') (hrow : W'.ownsRow X.heap.size 90 2 (.slice ao L.length cap) L.length (cellsI L)) (hg : W.heap.size ≤ g) (hgX : g < X.heap.size)
    (hz : z.size = 3) (hblk : W'.heap[g]? = some (.cells z 40 (0, 0))) :
    NB Wb x g ao cap q L (((W'.setCell ⟨g, 0, none⟩ (.slice ao L.length cap)).setCell ⟨g, 1, none⟩ (.int .i64 L.length)).setCell ⟨g, 2, none⟩ (.string ⟨q.toArray⟩)) := by
  have hlt := (Array.getElem?_eq_some_iff.1 h2).1
  have hne : (Value.slice ao L.length cap).ownBlock ≠ some g := fun e => by have := (hrow.lt _ e).1; omega
  obtain ⟨a, b, c, rfl⟩ : ∃ a b c, z = #[a, b, c] := by
    match z, hz with
    | ⟨[a, b, c]⟩, _ => exact ⟨a, b, c, rfl⟩
  obtain ⟨W'', hW, h3, h4⟩ := set3 hblk (.slice ao L.length cap) (.int .i64 L.length) (.string ⟨q.toArray⟩)
  have hb'' : Below W.heap.size W W'' := h4 hb hg
  have hrow'' : W''.ownsRow X.heap.size 90 2 (.slice ao L.length cap) L.length (cellsI L) := by
    rw [← hW]
    exact ownsRow_setCell_other (ownsRow_setCell_other (ownsRow_setCell_other hrow hne _) hne _) hne _
  rw [hW]
  exact ⟨h1.trans (hb''.mono h1.size), (hb''.block _ hlt).trans h2, by omega, h3, row_base hrow'' (by omega), hne⟩

set_option maxRecDepth 100000 in
set_option maxHeartbeats 8000000 in
theorem top_any (ao : Option Addr) (n cap : Nat) (zs : Nat → Nat) (m : Int) (w : World) (hn : n ≤ 9223372036854775807) (hT : Tabs w) (hm : w.cell? ⟨2, 0, none⟩ = some (.int .i64 m)) (hw : 3 ≤ w.heap.size)
    (hz8 : ∀ k, zs k < 256) (hc : ∀ k, k < n → ∃ ad, ao = some ad ∧ w.cell? (ad.add k) = some (.int .u8 (zs k))) :
    Calls Tryz.prog 3 #[.slice ao n cap] w fun e w' => e = .returned (.bool true) ∧ Below w.heap.size w w' := by
  have HC := Lib.hid hc
  have hdef := default_any m w hm hw
  clear hc
  go_enter Tryz.func3, Tryz.ntmps3
  go_wp2_with fail
  refine hdef.mono ?_
  rintro e w1 ⟨g, cg, rfl, hg, hb1, hrow⟩
  have hT1 : Tabs w1 := Utf8Tabs_below hT hb1
  have hnew := new_any g cg w1 hrow hT1
  clear hdef hrow hg
  go_wp2_with fail
  refine hnew.mono ?_
  rintro e w2 ⟨a, br, bp, bk, cp, PM, rfl, hA, hb2⟩
  have hbw2 := hb1.trans (hb2.mono hb1.size)
  have hT2 : Tabs w2 := Utf8Tabs_below hT hbw2
  clear hnew hb1 hb2 hT1
  go_wp2_with fail
  refine (kanaf_any w2).mono ?_
  rintro e w3 ⟨gk, ck, rfl, hgk, hb3, hkan⟩
  have hTS : TS w2 a br bp bk cp gk PM w3 := ⟨hb3, hA.below hb3 (Nat.le_refl _), Utf8Tabs_below hT2 hb3, hkan⟩
  clear hkan hgk hb3 hA hT2
  go_wp2_with fail
  obtain ⟨N, hN, hN1, hN2⟩ : ∃ N : Nat, min (n : Int) 64 = N ∧ N ≤ 64 ∧ N ≤ n := ⟨min n 64, by omega, by omega, by omega⟩
  rw [hN]
  clear hN
  go_loopw [6, 7, 9] (fun sv mv iv wr => ∃ (k : Nat) (s W : Kp.Bs) (cs : List Kp.Bs), k ≤ N ∧ iv = .int .i64 k ∧ sv = .string ⟨s.toArray⟩ ∧ mv = .int .i64 W.length ∧ LS k s W cs ∧ TS w2 a br bp bk cp gk PM wr) (fun _ _ iv _ => N - (intOf iv).toNat)
  case atStart => exact ⟨0, [], [], [], Nat.zero_le _, rfl, rfl, rfl, LS.start, hTS⟩
  case round =>
    clear hTS
    obtain ⟨k, s, W, cs, hk, rfl, rfl, rfl, hL, hTS⟩ := hrel
    by_cases hlt : k < N
    · obtain ⟨ad, rfl, hz⟩ := HC.out k (by omega)
      have hzb := cell_lt hz
      have d0 : wr.cell? (ad.add k) = some (.int .u8 (zs k)) := by
        rw [hTS.below.cell (p := ad.add k) (by have := hbw2.size; omega), hbw2.cell (p := ad.add k) hzb]
        exact hz
      have hzm : zs k % 84 < Kp.kanaL.length := by rw [Kp.kana_len]; omega
      have d1 := hTS.kana (zs k % 84) hzm
      have hmem : Kp.kanaL[zs k % 84] ∈ Kp.kanaL := List.getElem_mem _
      generalize Kp.kanaL[zs k % 84] = c at d1 hmem
      have hz8 := hz8 k
      generalize zs k = z at d0 d1 hz8
      have hzi : (z : Int) ≤ 255 := by omega
      have hzm2 : (z : Int) % 84 < 84 := by omega
      have hzm3 : 0 ≤ (z : Int) % 84 := by omega
      have hzm4 : ((z : Int) % 84).toNat = z % 84 := by omega
      have hsl := hL.kt.len
      have hsl2 : s.length ≤ 200 := by have := hL.len; omega
      clear hz hzm hsl
      obtain ⟨W0, hW0, hW0l, hW0k⟩ := Kp.kana_keys hmem
      have hty := type_kt w2.heap.size a br bp bk cp PM c W0 [c] wr hTS.auto hTS.below.size hTS.tabs (Kp.Kt.one hmem) (by simp) hW0 hW0k (by omega)
      have hcl := (Kp.kana_facts c hmem).1
      have hcl2 : c.length ≤ 3 := by omega
      have hWl := hL.short
      clear hW0 hW0k hcl
      go_wp2_with fail
      refine hty.mono ?_
      rintro e w4 ⟨K, rfl, hKl, hKf, hKk, hb4⟩
      have hTS4 := hTS.later hb4
      have hL4 := hL.step hmem hKf hKk (by omega)
      have hKl3 : K.length ≤ 3 := by omega
      have hadd := fun X => addl X s c (by omega) (by omega)
      have hsz : (⟨K.toArray⟩ : ByteArray).size = K.length := by simp [ByteArray.size]
      have hlen : (((W ++ K).length : Nat) : Int) = (W.length : Int) + (K.length : Int) := by simp
      have HL := Lib.hid hlen
      clear hty hKf hKk hb4 hTS hL hlen d0 d1 hzm2 hzm3 hzm4 hzi hz8
      go_wp2_with fail
      go_roundw
      case rel => exact ⟨k + 1, s ++ c, W ++ K, cs ++ [c], by omega, by go_num, rfl, by rw [HL.out], hL4, hTS4⟩
      case measure => simp [intOf]; omega
    · have hkN : k = N := by omega
      rw [hkN] at hL
      clear hk hkN
      have hsl := hL.kt.len
      have hcl := hL.len
      have hWs := hL.short
      have hs200 : s.length ≤ 200 := by omega
      have hty := type_kt w2.heap.size a br bp bk cp PM s W cs wr hTS.auto hTS.below.size hTS.tabs hL.kt (by omega) hL.feeds hL.keys (by omega)
      have hW200 : W.length ≤ 200 := by omega
      have HL := Lib.hid hL
      clear hsl hcl hWs hL
      go_wp2_with fail
      clear hlt
      refine hty.mono ?_
      rintro e w4 ⟨K, rfl, hKl, hKf, hKk, hb4⟩
      have hTS4 := hTS.later hb4
      have hrun := run_any w2.heap.size a br bp bk cp PM K s [] w4 hTS4.auto hTS4.below.size hKk (by omega) hKf (by omega)
      have HKf := Lib.hid hKf
      have HKk := Lib.hid hKk
      clear hty hKf hKk hb4 hTS
      go_wp2_with fail
      refine hrun.mono ?_
      rintro e w5 ⟨rfl, hb5⟩
      have hTS5 := hTS4.later hb5
      clear hrun hb5 hTS4
      go_wp2_with fail
      refine (rdefault_any w5).mono ?_
      rintro e w6 ⟨g2, cg2, rfl, hg2, hb6, hrow2⟩
      have hTS6 := hTS5.later hb6
      have hrr := rrun_any g2 cg2 K s [] w6 hrow2 HKk.out HKf.out (by omega) (by omega)
      clear hb6 hrow2 hTS5 hg2
      go_wp2_with fail
      refine hrr.mono ?_
      rintro e w7 ⟨rfl, hb7⟩
      have hTS7 := hTS6.later hb7
      have hKsz : (⟨K.toArray⟩ : ByteArray).size = K.length := by simp [ByteArray.size]
      have hq : decide ((W.length : Int) < (K.length : Int)) = false := by simp; omega
      clear hrr hb7 hTS6
      go_upto_if 124 with fail
      go_cut [8, 19, 20] (fun _ _ _ wx => TS w2 a br bp bk cp gk PM wx)
      case first =>
        by_cases h64 : N = 64
        · have hb : ((N : Int) == 64) = true := by simp; omega
          have hk0 : 0 < Kp.kanaL.length := by rw [Kp.kana_len]; omega
          have d0 := hTS7.kana 0 hk0
          have hmem : Kp.kanaL[0] ∈ Kp.kanaL := List.getElem_mem _
          generalize Kp.kanaL[0] = c at d0 hmem
          have hcl := (Kp.kana_facts c hmem).1
          have hadd := fun X => addl X s c (by omega) (by omega)
          have htl := type_long a (s ++ c) (cs ++ [c]) w7 (HL.out.kt.append (Kp.Kt.one hmem)) hTS7.tabs (by have := HL.out.len; simp; omega) (by have := HL.out.len; simp; omega)
          clear hcl hmem
          go_wp2_with fail
          refine htl.mono ?_
          rintro e w8 ⟨rfl, hb8⟩
          have hTS8 := hTS7.later hb8
          clear htl hb8 hTS7
          go_wp2_with fail
          go_meet
          exact hTS8
        · have hb : ((N : Int) == 64) = false := by simp; omega
          go_wp2_with fail
          go_meet
          exact hTS7
      case rest =>
        clear hTS7 hq
        have hTS := hcut
        clear hcut
        obtain ⟨wb, rfl⟩ : ∃ wb : World, wb = wc := ⟨_, rfl⟩
        go_wp2_with fail
        go_loopw [22] (fun iv wr => ∃ (i : Nat) (l : List It) (o q : Kp.Bs) (os : List Kp.Bs) (ao : Option Addr) (cap : Nat), i ≤ K.length ∧ iv = .int .i64 i ∧ BS wb K i l o q os ao cap wr) (fun iv _ => K.length - (intOf iv).toNat)
        case atStart => exact ⟨0, [], [], [], [], none, 0, Nat.zero_le _, rfl, BS.start wb K⟩
        case round =>
          obtain ⟨i, l, o, q, os, av, cv, hi, rfl, hB⟩ := hrel
          have hTSr : TS w2 a br bp bk cp gk PM wr := by
            refine hTS.later ?_
            exact hB.below
          by_cases hil : i < K.length
          · obtain ⟨o', q', os', f3, f2, hos, hlen, hpq⟩ := Kp.next_key_kt HKf.out HL.out.kt HKk.out i hil hB.feeds hB.kt
            have hck := HKk.out K[i] (List.getElem_mem hil)
            have hlL : l.length = os.length := by rw [← hB.outs]; simp
            have hcl := HL.out.len
            have hins := fun X (hb : Below wr.heap.size wr X) => cinsert_any w2.heap.size a br bp bk cp PM l av cv q q' o' os' K[i] X (hTSr.auto.below hb hTSr.below.size) (Nat.le_trans hTSr.below.size hb.size) (Utf8Tabs_below hTSr.tabs hb) (row_below (row_base hB.row (Nat.zero_le _)) hb) hB.ok hpq hck f3 hos (by omega)
            have hidx : (⟨K.toArray⟩ : ByteArray)[i]'(by simp [ByteArray.size]; omega) = K[i] := rfl
            have c0 : wr.cell? ⟨wb.heap.size, 0, none⟩ = some (.slice av l.length cv) := by rw [Lib.cell_of_heap hB.blk]; rfl
            have c1 : wr.cell? ⟨wb.heap.size, 1, none⟩ = some (.int .i64 l.length) := by rw [Lib.cell_of_heap hB.blk]; rfl
            have c2 : wr.cell? ⟨wb.heap.size, 2, none⟩ = some (.string ⟨q.toArray⟩) := by rw [Lib.cell_of_heap hB.blk]; rfl
            have hBlt := (Array.getElem?_eq_some_iff.1 hB.blk).1
            have HI := Lib.hid hins
            have HF := Lib.hid f2
            have HB := Lib.hid hB
            have HO := Lib.hid hos
            clear hins f2 f3 hlL hcl hpq hB hos hlen
            have hkeep : ∀ W', Below wr.heap.size wr W' → W'.cell? ⟨wb.heap.size, 0, none⟩ = some (.slice av l.length cv) ∧ W'.cell? ⟨wb.heap.size, 1, none⟩ = some (.int .i64 l.length) ∧ W'.cell? ⟨wb.heap.size, 2, none⟩ = some (.string ⟨q.toArray⟩) := fun W' hb => by
              have h := (hb.block _ hBlt).trans HB.out.blk
              exact ⟨by rw [Lib.cell_of_heap h]; rfl, by rw [Lib.cell_of_heap h]; rfl, by rw [Lib.cell_of_heap h]; rfl⟩
            have HKP := Lib.hid hkeep
            clear hkeep
            go_upto_region 28 with fail
            go_cut [23, 24] (fun x y wx => ∃ (g : Nat) (L : List It) (av' : Option Addr) (cv' : Nat), x = .pointer (some ⟨g, 0, none⟩) ∧ y = .int .i64 0 ∧ L.map (·.2) = l.map (·.2) ++ os' ∧ (∀ x ∈ L, okItem x) ∧ NB wb #[.slice av l.length cv, .int .i64 l.length, .string ⟨q.toArray⟩] g av' cv' q' L wx)
            case first =>
              go_region_held3 (fun w' => w'.cell? ⟨wb.heap.size, 0, none⟩ = some (.slice av l.length cv) ∧ w'.cell? ⟨wb.heap.size, 1, none⟩ = some (.int .i64 l.length) ∧ w'.cell? ⟨wb.heap.size, 2, none⟩ = some (.string ⟨q.toArray⟩))
                (exact HKP.out _ (by repeat (first | exact Below.refl _ _ | refine belowC ?_ hbj | refine Below.drew ?_ | refine belowA ?_ _ | refine belowS ?_ (by first | exact Nat.le_refl _ | omega) _)))
                (first
                | (go_at_call 11; refine (HI.out _ (by repeat (first | exact Below.refl _ _ | refine belowC ?_ hbj | refine Below.drew ?_ | refine belowA ?_ _ | refine belowS ?_ (by first | exact Nat.le_refl _ | omega) _))).mono ?_; rintro e Wj ⟨v2, L, rfl, hrow2, hout2, hok2, hbj⟩; obtain ⟨av2, cv2, rfl⟩ := row_slice hrow2; obtain ⟨hc2, hf2⟩ := bcell hbj; have hsj := hbj.size; (try simp at hsj); (try (have hsl : wr.heap.size < Wj.heap.size := by omega)); have HO2 := Lib.hid hout2; have HK2 := Lib.hid hok2; clear hout2 hok2))
              all_goals
                go_wp2_with fail
                go_meet
              all_goals
                first
                | exact ⟨_, L, av2, cv2, rfl, rfl, HO2.out, HK2.out, NB.late HB.out.below HB.out.blk (by repeat (first | exact Below.refl _ _ | refine belowC ?_ hbj | refine Below.drew ?_ | refine belowA ?_ _ | refine belowS ?_ (by first | exact Nat.le_refl _ | omega) _)) hrow2 (by (try simp) <;> omega)⟩
                | exact ⟨_, L, av2, cv2, rfl, rfl, HO2.out, HK2.out, NB.early HB.out.below HB.out.blk (by repeat (first | exact Below.refl _ _ | refine belowC ?_ hbj | refine Below.drew ?_ | refine belowA ?_ _ | refine belowS ?_ (by first | exact Nat.le_refl _ | omega) _)) hrow2 (Nat.le_refl _) (by (try simp) <;> omega) rfl ((hbj.block _ (by simp)).trans (alloc_new _ (.cells #[.slice none 0 0, .int .i64 0, .string ⟨#[]⟩] 40)))⟩
            case rest =>
              obtain ⟨gn, L, av', cv', rfl, rfl, hout, hok, hN⟩ := hcut
              have g0 : wc.cell? ⟨gn, 0, none⟩ = some (.slice av' L.length cv') := by rw [Lib.cell_of_heap hN.blk]; rfl
              have g1 : wc.cell? ⟨gn, 1, none⟩ = some (.int .i64 L.length) := by rw [Lib.cell_of_heap hN.blk]; rfl
              have g2 : wc.cell? ⟨gn, 2, none⟩ = some (.string ⟨q'.toArray⟩) := by rw [Lib.cell_of_heap hN.blk]; rfl
              have b0 : wc.cell? ⟨wb.heap.size, 0, none⟩ = some (.slice av l.length cv) := by rw [Lib.cell_of_heap hN.blk0]; rfl
              have b1 : wc.cell? ⟨wb.heap.size, 1, none⟩ = some (.int .i64 l.length) := by rw [Lib.cell_of_heap hN.blk0]; rfl
              have b2 : wc.cell? ⟨wb.heap.size, 2, none⟩ = some (.string ⟨q.toArray⟩) := by rw [Lib.cell_of_heap hN.blk0]; rfl
              have bf : ∀ j, wc.frozen? ⟨wb.heap.size, j, none⟩ = false := fun j => Lib.frozen_of_heap hN.blk0 j
              have HOut := Lib.hid hout
              have HOk := Lib.hid hok
              clear hout hok c0 c1 c2 HI HKP hBlt
              go_wp2_with fail
              go_roundw
              case rel =>
                refine ⟨i + 1, L, o ++ o', q', os ++ os', av', cv', by omega, by go_num, ?_⟩
                have hr := hN.row.lt
                have hne : (Value.slice av' L.length cv').ownBlock ≠ some wb.heap.size := fun e => by have := (hr _ e).1; omega
                obtain ⟨W'', hW, h1, h2⟩ := set3 hN.blk0 (.slice av' L.length cv') (.int .i64 L.length) (.string ⟨q'.toArray⟩)
                refine ⟨?_, ?_, ?_, HF.out, HB.out.kt.append HO.out, by rw [HOut.out, HB.out.outs], HOk.out⟩
                · rw [hW]; exact h2 hN.below (Nat.le_refl _)
                · rw [hW]; exact h1
                · exact ownsRow_setCell_other (ownsRow_setCell_other (ownsRow_setCell_other hN.row hne _) hne _) hne _
              case measure => simp [intOf]; omega
          · have hiK : K.take i = K := List.take_of_length_le (by omega)
            have hf := hB.feeds
            rw [hiK] at hf
            obtain ⟨rfl, rfl⟩ := HKf.out.det hf
            have hos : os = cs := hB.kt.inj HL.out.kt
            have hout : outs l = o := by show (l.map (·.2)).flatten = o; rw [hB.outs, hB.kt.2]
            have hll : l.length ≤ 64 := by
              have h1 := HL.out.len
              have h2 := congrArg List.length hB.outs
              rw [List.length_map, hos] at h2
              omega
            have htx := text_any l av cv wr hTSr.tabs (row_base hB.row (Nat.zero_le _)) hll hB.ok
            rw [hout] at htx
            have c0 : wr.cell? ⟨wb.heap.size, 0, none⟩ = some (.slice av l.length cv) := by rw [Lib.cell_of_heap hB.blk]; rfl
            have c1 : wr.cell? ⟨wb.heap.size, 1, none⟩ = some (.int .i64 l.length) := by rw [Lib.cell_of_heap hB.blk]; rfl
            have c2 : wr.cell? ⟨wb.heap.size, 2, none⟩ = some (.string ⟨#[]⟩) := by rw [Lib.cell_of_heap hB.blk]; rfl
            have hbr := hbw2.trans (hTSr.below.mono hbw2.size)
            clear hf hos hout hiK hB hTSr
            go_wp2_with fail
            refine htx.mono ?_
            rintro e w9 ⟨rfl, hb9⟩
            go_wp2_with fail
            go_ret
            exact ⟨rfl, hbr.trans (hb9.mono hbr.size)⟩
end Go.Proofs.YtmnbhjijphlanaaGreatDoor
