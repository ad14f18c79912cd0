/-
  Type: the least keys that write a text of kana: the search, as the plain part says.
-/
import Derived.Test.YtmnbhjijphlanaaGreatDoorTypeRel
namespace Go.Proofs.YtmnbhjijphlanaaGreatDoor
open Go.RowKit Mp

set_option maxRecDepth 100000 in
set_option maxHeartbeats 2000000 in
theorem type_any (B0 a br bp bk cap : Nat) (PM : List (Kp.Bs × Bool)) (s : ByteArray) (n : Int) (W : Kp.Bs) (w : World) (hA : AutoAt B0 w a br bp bk cap PM) (hB0 : B0 ≤ w.heap.size) (hn0 : 0 ≤ n) (hn1 : n ≤ 64)
    (hcount : Calls Tryz.prog 20 #[.string s] w fun e w' => e = .returned (.int .i64 n) ∧ Below w.heap.size w w') (hs : s.size ≤ 300) (hk : ∀ i, (h : i < s.size) → Kp.isKey s[i] = false)
    (hW : Kp.Feeds [] W s.data.toList []) (hWA : ∀ c ∈ W, c ∈ Kp.akeys) (hWl : W.length ≤ 100000) :
    Calls Tryz.prog 7 #[.pointer (some ⟨a, 0, none⟩), .string s] w fun e w' => ∃ k : Kp.Bs, e = .returned (.tuple #[.string ⟨k.toArray⟩, .bool true]) ∧ k.length ≤ W.length ∧ Kp.Feeds [] k s.data.toList [] ∧ (∀ c ∈ k, Kp.isKey c = true) ∧ Below w.heap.size w w' := by
  have hmm := @run_makeMap Tryz.prog
  go_enter Tryz.func7, Tryz.ntmps7
  have hmap : ∀ (w1 : World) o, MapIs ((w1.alloc o).alloc (.map #[] 0)) (w1.heap.size + 1) (ent stV strV []) := fun w1 o => by simpa [ent] using mapIs_made (w1.alloc o)
  go_wp2_with (first
    | (go_at_call 20; refine hcount.mono ?_; rintro e w1 ⟨rfl, hb1⟩)
    | (refine wpList_insert _ rfl (.tmp 42) (.tmp 43) (.const (.string ⟨#[]⟩)) 64 rfl keyBy_st Tryz.underlying64 (w1.heap.size + 1) [] rfl (hmap _ _) (0, []) [] rfl rfl ?_; intro w2 hM2 hg2))
  have hsz1 := hb1.size
  have hBx2 : Bx w2 w1.heap.size (s.size, []) := by
    have h0 : Bx (w1.alloc (.cells #[.int .i64 s.size, .string ⟨#[]⟩] 63)) w1.heap.size (s.size, []) := alloc_new w1 _
    have h1 : Bx ((w1.alloc (.cells #[.int .i64 s.size, .string ⟨#[]⟩] 63)).alloc (.map #[] 0)) w1.heap.size (s.size, []) := h0.below ((Below.refl _ _).alloc (Nat.le_refl _) _) (by simp)
    exact h1.grown hg2 (by simp)
  have hb2 : Below w.heap.size w w2 := (((hb1.alloc hsz1 _).alloc (by simp; omega) _).grown hg2 (by simp; omega) (fun k hk => by cases hk; omega))
  have hsz2 : w1.heap.size + 2 ≤ w2.heap.size := by have := hg2.size; simpa using this
  go_loopg [9] W.length (fun kq v9 wr => ∃ d M L, d + kq = W.length ∧ Kp.Inv s.data.toList Kp.akeys W d M L ∧ Bx wr w1.heap.size (s.size, []) ∧ MapIs wr (w1.heap.size + 1) (ent stV strV M) ∧ wr.ownsRow (w1.heap.size + 2) 63 2 v9 L.length (cellsOf L) ∧ Below w.heap.size w wr)
  case atStart =>
    refine ⟨0, [((0, []), [])], [(0, [])], by omega, Kp.inv_start, hBx2.below ((Below.refl _ _).alloc (Nat.le_refl _) _) hBx2.lt, hM2.below ((Below.refl _ _).alloc (Nat.le_refl _) _) (by omega), ?_, hb2.alloc (by omega) _⟩
    exact World.ownsRow_lit w2 #[.int .i64 0, .string ⟨#[]⟩] 1 hsz2 (by decide) rfl
  case round =>
    obtain ⟨wo, rfl⟩ : ∃ wo : World, wo = wr := ⟨_, rfl⟩
    obtain ⟨go, rfl⟩ : ∃ go : Nat, go = gk := ⟨_, rfl⟩
    obtain ⟨d, M, L, hd, hI, hBG, hM, hrow, hb⟩ := hrel
    clear hM2 hg2 hBx2 hb2 hsz2
    have hsl : s.data.toList.length = s.size := by simp
    rcases Nat.eq_zero_or_pos L.length with hL0 | hL
    · obtain rfl := List.eq_nil_of_length_eq_zero hL0
      exact (hI.some hW hWA).elim
    obtain ⟨g9, c9, rfl, hg9, hg9', hcells⟩ := row_at hrow hL
    obtain ⟨cg0, cg1⟩ := hBG.cell
    have hMlt := hM.lt
    cases hgm : Al.get M (s.size, []) with
    | some k =>
      have hgood := hI.good _ _ hgm
      have hfin : k.length ≤ W.length ∧ Kp.Feeds [] k s.data.toList [] ∧ ∀ c ∈ k, Kp.isKey c = true := by
        obtain ⟨⟨h1, _⟩, h2, h3, _⟩ := hgood
        refine ⟨?_, ?_, h3⟩
        · omega
        · rw [← hsl] at h1; simpa only [List.take_length] using h1
      clear hgood hI
      go_wp2_with (refine wpList_found _ rfl (.tmp 51) (.tmp 52) 64 rfl keyBy_st Tryz.underlying64 (w1.heap.size + 1) M rfl hM _ (Tryz.zeroValue9 _) (s.size, []) rfl k hgm _ rfl ?_)
      go_ret2
      exact ⟨k, rfl, hfin.1, hfin.2.1, hfin.2.2, hb⟩
    | none =>
      have hdlt : d < W.length := by
        rcases Nat.lt_or_ge d W.length with h | h
        · exact h
        · have := hI.found hW h
          rw [hsl, hgm] at this; cases this
      go_wp2_with (refine wpList_absent _ rfl (.tmp 51) (.tmp 52) 64 rfl keyBy_st Tryz.underlying64 (w1.heap.size + 1) M rfl hM _ (Tryz.zeroValue9 _) (s.size, []) rfl hgm ?_)
      go_loopw [13, 61] (fun v13 v61 wr2 => ∃ j R X, j ≤ L.length ∧ v61 = .int .i64 (j : Nat) ∧ In2 wo wo.heap.size wr2 v13 R X ∧ Kp.Mid s.data.toList Kp.akeys d M R X (doneP L j 0)) (fun _ v61 _ => L.length - (intOf v61).toNat)
      case atStart => exact ⟨0, [], [], Nat.zero_le _, rfl, in2_start wo, mid_weaken (Kp.mid_start _ _ _ _) (fun _ _ h => doneP_zero h)⟩
      case round =>
        obtain ⟨wl, rfl⟩ : ∃ wl : World, wl = wr := ⟨_, rfl⟩
        obtain ⟨j, R, X, hj, rfl, hIn, hMid⟩ := hrel
        have hbz := hb.size
        have hb2 : Below w.heap.size w wl := hb.trans (hIn.below.mono hbz)
        have hA2 := hA.below hb2 hB0
        have hNl := hIn.lt
        have hLs := inv_lsize hI
        by_cases hjl : j < L.length
        · have hx := hcells j hjl
          have cx0 := ((hIn.below.cell (p := ⟨g9, j * 2, none⟩) hg9').trans hx.1)
          have cx1 := ((hIn.below.cell (p := ⟨g9, j * 2 + 1, none⟩) hg9').trans hx.2)
          obtain ⟨x, hxe⟩ : ∃ x, x = L[j] := ⟨_, rfl⟩
          rw [← hxe] at cx0 cx1
          obtain ⟨kx, hkx⟩ := Option.isSome_iff_exists.1 (hI.last x (by rw [hxe]; exact List.getElem_mem hjl))
          have hgx := hI.good x kx hkx
          have hxat : x.1 ≤ s.size := by have := hgx.1.2; omega
          have HX := Lib.hid hxe
          have HKX := Lib.hid hkx
          clear hxe hx hkx
          have q1 : ∀ o : Obj, B0 ≤ (wl.alloc o).heap.size := fun o => by simp; omega
          have q2 : ∀ o : Obj, AutoAt B0 (wl.alloc o) a br bp bk cap PM := fun o => hA2.below ((Below.refl _ _).alloc (Nat.le_refl _) _) (by omega)
          have q3 : (s.extract x.1 s.size).size ≤ 100000 := by simp [ByteArray.size_extract]; omega
          go_wp2_with (go_at_call 21; refine (choices_kana B0 a br bp bk cap PM _ _ (q2 _) (q1 _) q3 (rest_keys s x.1 hk)).mono ?_; rintro e w3 ⟨rfl, hb3⟩)
          have hb3' : Below wl.heap.size wl w3 := ((Below.refl wl.heap.size wl).alloc (Nat.le_refl _) _).trans (hb3.mono (by simp))
          have hsz3 : wl.heap.size < w3.heap.size := by have := hb3.size; simp at this; omega
          have hX3 : Bx w3 wl.heap.size x := Bx.below (w := wl.alloc (.cells #[.int .i64 x.1, .string ⟨x.2.toArray⟩] 63)) (alloc_new wl _) hb3 (by simp)
          have hv13 : u13.ownBlock ≠ some wl.heap.size := fun e => by have := (hIn.row.lt _ e).2; omega
          go_loopw [13, 72] (fun v13 v72 wr3 => ∃ i R X, i ≤ Kp.akeys.length ∧ v72 = .int .i64 (i : Nat) ∧ In2 wo wo.heap.size wr3 v13 R X ∧ Kp.Mid s.data.toList Kp.akeys d M R X (doneP L j i) ∧ Bx wr3 wl.heap.size x ∧ v13.ownBlock ≠ some wl.heap.size) (fun _ v72 _ => Kp.akeys.length - (intOf v72).toNat)
          case atStart => exact ⟨0, R, X, Nat.zero_le _, rfl, hIn.later hb3', hMid, hX3, hv13⟩
          case round =>
            clear hX3 hMid hIn
            obtain ⟨wi, rfl⟩ : ∃ wi : World, wi = wr := ⟨_, rfl⟩
            obtain ⟨i, R', X', hi, rfl, hIn3, hMid3, hX3, hv3⟩ := hrel
            have hb4 : Below w.heap.size w wi := hb.trans (hIn3.below.mono hbz)
            have hA3 := hA.below hb4 hB0
            by_cases hil : i < Kp.akeys.length
            · obtain ⟨c, hce⟩ : ∃ c, c = Kp.akeys[i] := ⟨_, rfl⟩
              have hck := hA3.keys i hil
              rw [← hce] at hck
              have hkc : Kp.isKey c = true := akeys_key c (by rw [hce]; exact List.getElem_mem hil)
              obtain ⟨o, q, hf⟩ := Kp.feeds_total x.2 [c]
              have hol := feeds_len hf
              have hpx := (Kp.part_keys hgx.2.2.2).1
              have hol' : o.length ≤ 100000 := by simp at hol; omega
              have hB4 := hb4.size
              have hak : Kp.akeys.length ≤ 28 := by decide
              obtain ⟨cX0, cX1⟩ := hX3.cell
              have HC := Lib.hid hce
              clear hce hol
              cases hp : Lib.hasPrefix (s.data.toList.drop x.1) o with
              | false =>
                obtain ⟨k0, hk0⟩ := Option.isSome_iff_exists.1 hI.start
                have HI := Lib.hid hI
                clear hI
                go_wp2_with (first
                  | (go_at_call 22; refine (after_no B0 a br bp bk cap PM s x.1 x.2 c o q _ hA3 (by omega) hgx.2.2.2 hkc hf hxat (by omega) hol' hp).mono ?_; rintro e wj ⟨rfl, hbj⟩)
                  | (at_lookup; refine wpList_found _ rfl (.tmp 85) (.tmp 86) 64 rfl keyBy_st Tryz.underlying64 (w1.heap.size + 1) M rfl (map_after hM hIn3.below hbj _) _ (Tryz.zeroValue9 _) (0, []) rfl k0 hk0 _ rfl ?_))
                go_roundw
                case rel =>
                  refine ⟨i + 1, R', X', by omega, by go_num, hIn3.later (hbj.alloc hbj.size _), ?_, (hX3.below hbj hX3.lt).below ((Below.refl _ _).alloc (Nat.le_refl _) _) (by have := hbj.size; have := hX3.lt; omega), hv3⟩
                  refine mid_weaken (hMid3.skip x c (fun y ha => ?_)) (fun x' c' h => ?_)
                  · obtain ⟨o', q', hf', hp', rfl⟩ := ha
                    obtain ⟨rfl, rfl⟩ := hf.det hf'
                    rw [(hasPrefix_iff _ _).2 hp'] at hp
                    cases hp
                  · rw [HX.out, HC.out]; exact doneP_key hjl hil h
                case measure => simp [intOf]; omega
              | true =>
                have hpx2 := (hasPrefix_iff _ _).1 hp
                have haft : Kp.Aft s.data.toList x c (x.1 + o.length, q) := ⟨o, q, hf, hpx2, rfl⟩
                have HI := Lib.hid hI
                clear hI
                cases hMy : Al.get M (x.1 + o.length, q) with
                | some ky =>
                  go_wp2_with (first
                    | (go_at_call 22; refine (after_yes B0 a br bp bk cap PM s x.1 x.2 c o q _ hA3 (by omega) hgx.2.2.2 hkc hf hxat (by omega) hol' hp).mono ?_; rintro e wj ⟨rfl, hbj⟩)
                    | (at_lookup; refine wpList_found _ rfl (.tmp 85) (.tmp 86) 64 rfl keyBy_st Tryz.underlying64 (w1.heap.size + 1) M rfl (map_after hM hIn3.below hbj _) _ (Tryz.zeroValue9 _) (x.1 + o.length, q) rfl ky hMy _ rfl ?_))
                  go_roundw
                  case rel =>
                    refine ⟨i + 1, R', X', by omega, by go_num, hIn3.later (hbj.alloc hbj.size _), ?_, (hX3.below hbj hX3.lt).below ((Below.refl _ _).alloc (Nat.le_refl _) _) (by have := hbj.size; have := hX3.lt; omega), hv3⟩
                    refine mid_weaken (hMid3.skip x c (fun y ha => ?_)) (fun x' c' h => ?_)
                    · rw [haft.det ha]; left; rw [hMy]; rfl
                    · rw [HX.out, HC.out]; exact doneP_key hjl hil h
                  case measure => simp [intOf]; omega
                | none =>
                  cases hRy : Al.get R' (x.1 + o.length, q) with
                  | none =>
                    have henc := enc_key c hkc
                    have hadd := fun W' => add_key W' kx c (by have := hgx.2.1; omega)
                    obtain ⟨i0, hi0, hz0, hz1, hz2⟩ := info_parts info63
                    have hXs := hMid3.size.2
                    have hNi := hIn3.lt
                    have hq1 : X'.length + 1 ≤ maxLen := by unfold maxLen; omega
                    have hq2 : (X'.length + 1) * 24 ≤ 140737488355328 := by omega
                    have hq3 : ∀ {wj : World}, wi.heap.size ≤ wj.heap.size → ∀ o1 o2, wo.heap.size + 1 ≤ ((wj.alloc o1).alloc o2).heap.size := fun h o1 o2 => by simp; omega
                    go_wp2_with (first
                      | (go_at_call 22; refine (after_yes B0 a br bp bk cap PM s x.1 x.2 c o q _ hA3 (by omega) hgx.2.2.2 hkc hf hxat (by omega) hol' hp).mono ?_; rintro e wj ⟨rfl, hbj⟩; obtain ⟨d0, d1⟩ := box_after hX3 hbj)
                      | (at_lookup; refine wpList_absent _ rfl (.tmp 85) (.tmp 86) 64 rfl keyBy_st Tryz.underlying64 (w1.heap.size + 1) M rfl (map_after hM hIn3.below hbj _) _ (Tryz.zeroValue9 _) (x.1 + o.length, q) rfl hMy ?_)
                      | (at_lookup; refine wpList_value _ rfl (.tmp 95) (.tmp 96) 64 rfl keyBy_st Tryz.underlying64 (w1.heap.size + 1) M rfl (map_after hM hIn3.below hbj _) _ (Tryz.zeroValue9 _) x rfl kx HKX.out (.string ⟨kx.toArray⟩) rfl ?_)
                      | (at_lookup; refine wpList_absent _ rfl (.tmp 103) (.tmp 104) 64 rfl keyBy_st Tryz.underlying64 wo.heap.size R' rfl (hIn3.later (hbj.alloc hbj.size _)).rmap _ (Tryz.zeroValue9 _) (x.1 + o.length, q) rfl hRy ?_)
                      | (at_builtin; refine wpList_append_own_at _ rfl (.tmp 110) (.tmp 112) 65 rfl (wo.heap.size + 1) 63 i0 (.agg #[.int .i64 0, .string ⟨#[]⟩]) 2 24 Tryz.underlying65 hi0 hz0 hz1 hz2 rfl (by decide) _ _ _ rfl (row_after hIn3 hbj _ _).row ⟨wj.heap.size + 1, 0, none⟩ 1 1 [.int .i64 (↑x.1 + ↑o.length), .string ⟨q.toArray⟩] rfl rfl (two_new _ _ _ _) (two_one _ _) hq1 hq2 (hq3 hbj.size _ _) ?_; intro v5 w5 hown5 hgrow5 _ hloc5; obtain ⟨hIn5, hY5, hX5, hv5⟩ := app_done (Int.natCast_add _ _).symm hIn3 hX3 hv3 hbj hown5 hgrow5 hloc5; obtain ⟨e0, e1⟩ := hY5.cell)
                      | (at_mapUpdate; refine wpList_update _ rfl (.tmp 117) (.tmp 118) (.tmp 119) 64 rfl keyBy_st Tryz.underlying64 wo.heap.size R' rfl hIn5.rmap (x.1 + o.length, q) (kx ++ [c]) rfl rfl ?_; intro w6 hM6 hg6))
                    go_roundw
                    case rel =>
                      have hP := hMid3.put hgx hkc haft hMy
                      refine ⟨i + 1, _, X' ++ [(x.1 + o.length, q)], by omega, by go_num, hIn5.update hM6 hg6, mid_weaken (by simpa [hRy] using hP) (fun x' c' h => by rw [HX.out, HC.out]; exact doneP_key hjl hil h), hX5.grown hg6 (fun e => by have := Option.some.inj e; omega), hv5⟩
                    case measure => simp [intOf]; omega
                  | some had =>
                    have henc := enc_key c hkc
                    have hadd := fun W' => add_key W' kx c (by have := hgx.2.1; omega)
                    go_wp2_with (first
                      | (go_at_call 22; refine (after_yes B0 a br bp bk cap PM s x.1 x.2 c o q _ hA3 (by omega) hgx.2.2.2 hkc hf hxat (by omega) hol' hp).mono ?_; rintro e wj ⟨rfl, hbj⟩; obtain ⟨d0, d1⟩ := box_after hX3 hbj)
                      | (at_lookup; refine wpList_absent _ rfl (.tmp 85) (.tmp 86) 64 rfl keyBy_st Tryz.underlying64 (w1.heap.size + 1) M rfl (map_after hM hIn3.below hbj _) _ (Tryz.zeroValue9 _) (x.1 + o.length, q) rfl hMy ?_)
                      | (at_lookup; refine wpList_value _ rfl (.tmp 95) (.tmp 96) 64 rfl keyBy_st Tryz.underlying64 (w1.heap.size + 1) M rfl (map_after hM hIn3.below hbj _) _ (Tryz.zeroValue9 _) x rfl kx HKX.out (.string ⟨kx.toArray⟩) rfl ?_)
                      | (at_lookup; refine wpList_found _ rfl (.tmp 103) (.tmp 104) 64 rfl keyBy_st Tryz.underlying64 wo.heap.size R' rfl (hIn3.later (hbj.alloc hbj.size _)).rmap _ (Tryz.zeroValue9 _) (x.1 + o.length, q) rfl had hRy (.string ⟨had.toArray⟩) rfl ?_)
                      | (at_mapUpdate; refine wpList_update _ rfl (.tmp 117) (.tmp 118) (.tmp 119) 64 rfl keyBy_st Tryz.underlying64 wo.heap.size R' rfl (hIn3.later (hbj.alloc hbj.size _)).rmap (x.1 + o.length, q) (kx ++ [c]) rfl rfl ?_; intro w6 hM6 hg6))
                    · go_roundw
                      case rel =>
                        refine ⟨i + 1, R', X', by omega, by go_num, hIn3.later (hbj.alloc hbj.size _), ?_, (hX3.below hbj hX3.lt).below ((Below.refl _ _).alloc (Nat.le_refl _) _) (by have := hbj.size; have := hX3.lt; omega), hv3⟩
                        refine mid_weaken (hMid3.skip x c (fun y ha => ?_)) (fun x' c' h => ?_)
                        · rw [haft.det ha]; right; rw [hRy]; rfl
                        · rw [HX.out, HC.out]; exact doneP_key hjl hil h
                      case measure => simp [intOf]; omega
                    · go_roundw
                      case rel =>
                        have hP := hMid3.put hgx hkc haft hMy
                        have hNi := hIn3.lt
                        refine ⟨i + 1, _, X', by omega, by go_num, (hIn3.later (hbj.alloc hbj.size _)).update hM6 hg6, mid_weaken (by simpa [hRy] using hP) (fun x' c' h => by rw [HX.out, HC.out]; exact doneP_key hjl hil h), ((hX3.below hbj hX3.lt).below ((Below.refl _ _).alloc (Nat.le_refl _) _) (by have := hbj.size; have := hX3.lt; omega)).grown hg6 (fun e => by have := Option.some.inj e; omega), hv3⟩
                      case measure => simp [intOf]; omega
            · obtain rfl : i = Kp.akeys.length := by omega
              go_wp2
              go_roundw
              case rel => exact ⟨j + 1, R', X', by omega, by go_num, hIn3, mid_weaken hMid3 (fun x' c' h => doneP_state hjl h)⟩
              case measure => simp [intOf]; omega
        · obtain rfl : j = L.length := by omega
          have hRn := hMid.nodup
          have hMn := hI.nodup
          go_wp2_with (at_range; refine wpList_range _ rfl (.tmp 122) 64 rfl Tryz.underlying64 wo.heap.size (ent stV strV R) rfl hIn.rmap ?_; intro w7 hit7 hg7 hs7)
          go_frame
          go_loopg [] R.length (fun kq wr => ∃ M' left, left.length = kq ∧ Iter wr wl.heap.size wo.heap.size (ent stV strV left) ∧ MapIs wr (w1.heap.size + 1) (ent stV strV M') ∧ Cp M R M' left ∧ wr.ownsRow (wo.heap.size + 1) 63 2 u13 X.length (cellsOf X) ∧ Below w.heap.size w wr ∧ Bx wr w1.heap.size (s.size, []))
          case atStart =>
            refine ⟨M, R, rfl, hit7, (hM.below hIn.below hMlt).grown hg7 (by simp), Cp.start hMn hRn, hIn.row.kept hg7 ?_, hb2.grown hg7 hb2.size (by simp), (hBG.below hIn.below (by omega)).grown hg7 (by simp)⟩
            cases u13.ownBlock <;> simp
          case round =>
            obtain ⟨wr4, rfl⟩ : ∃ wr4 : World, wr4 = wr := ⟨_, rfl⟩
            obtain ⟨M', left, hlen, hit, hM', hCp, hrow', hb', hBG'⟩ := hrel
            go_wp2_with (at_next; refine wpList_next _ rfl (.tmp 123) rfl wl.heap.size wo.heap.size _ rfl hit ?_ ?_)
            · intro h0
              have hl0 : left = [] := by simpa [ent] using h0
              subst hl0
              go_wp2
              go_roundg (go - 1)
              case rel => exact ⟨d + 1, M', X, by omega, hI.next hW hWA hMid (fun x hx c hc => doneP_all hx hc) (by rw [hsl]; exact hgm) hCp.nodup hCp.done, hBG', hM', row_mono hrow' (by omega), hb'⟩
              case measure => omega
            · intro l1 k v l2 w8 hsp hit8 hg8 hs8 hen8
              obtain ⟨m1, y, b, m2, hle, rfl, rfl, hrest⟩ := ent_split hsp
              simp only [stV, strV] at hen8
              have hM8 : ∀ ob, MapIs (w8.alloc ob) (w1.heap.size + 1) (ent stV strV M') := fun ob => (hM'.grown hg8 (fun e => by have := Option.some.inj e; omega)).below ((Below.refl _ _).alloc (Nat.le_refl _) ob) (by have := hM'.lt; omega)
              go_wp2_with (at_mapUpdate; refine wpList_update _ rfl (.tmp 129) (.tmp 130) (.tmp 131) 64 rfl keyBy_st Tryz.underlying64 (w1.heap.size + 1) M' rfl (hM8 _) y b rfl rfl ?_; intro w9 hM9 hg9x)
              have hz8 := hb'.size
              go_roundg (m1 ++ m2).length
              case rel =>
                refine ⟨Al.put M' y b, m1 ++ m2, rfl, ?_, hM9, (hle ▸ hCp).step, ?_, ?_, ?_⟩
                · rw [← hrest]
                  exact (hit8.of_blocks (Below.heap_alloc w8 _ _ hit8.lt.1) (Below.heap_alloc w8 _ _ hit8.lt.2)).grown hg9x (fun e => by have := Option.some.inj e; omega) (fun e => by have := Option.some.inj e; omega)
                · have r1 := hrow'.kept hg8 (by
                    cases ho : u13.ownBlock with
                    | none => exact .inl rfl
                    | some g => right; rintro ⟨⟩; have := (hIn.row.lt _ ho).2; omega)
                  refine (r1.alloc _).kept hg9x ?_
                  cases ho : u13.ownBlock with
                  | none => exact .inl rfl
                  | some g => right; rintro ⟨⟩; have := (hIn.row.lt _ ho).1; omega
                · exact ((hb'.grown hg8 hz8 (fun k hk => by cases hk; omega)).alloc (by omega) _).grown hg9x (by simp; omega) (fun k hk => by cases hk; omega)
                · exact ((hBG'.grown hg8 (fun e => by have := Option.some.inj e; omega)).below ((Below.refl _ _).alloc (Nat.le_refl _) _) (by have := hBG'.lt; omega)).grown hg9x (by simp)
              case measure => rw [← hlen, hle]; simp
end Go.Proofs.YtmnbhjijphlanaaGreatDoor
