/-
  henkantop.kana: the kana that the rules write, each once.
-/
import Derived.Test.YtmnbhjijphlanaaGreatDoorComp4
import Derived.Test.YtmnbhjijphlanaaGreatDoorRDef
namespace Go.Proofs.YtmnbhjijphlanaaGreatDoor
open Go.RowKit Mp Go.Shelf Go.Lib

def cellsS (l : List Kp.Bs) : List Value := l.map (fun b => Value.string ⟨b.toArray⟩)
theorem cellsS_at (l : List Kp.Bs) (j : Nat) (h : j < l.length) : (cellsS l)[j]? = some (.string ⟨(l[j]).toArray⟩) := by simp [cellsS, h]
theorem info9 : (Tryz.prog.info? 9).map (fun i => (i.zero, i.size, i.bytes)) = some (some (.string ⟨#[]⟩), 1, 16) := by kernel_rfl
theorem one_newT (t : TypeId) (wj : World) (a : Value) : ∀ j u, [a][j]? = some u → (wj.alloc (.cells #[a] t)).cell? ((⟨wj.heap.size, 0, none⟩ : Addr).add j) = some u := by
  intro j u h
  match j with
  | 0 => simp at h; subst h; simp [Addr.add]
  | j + 1 => simp at h
theorem one_str (a : ByteArray) : ∀ u ∈ [Value.string a], u.oneCell' = true := by
  intro u hu
  rw [List.mem_singleton.1 hu]
  rfl
theorem slice_cell1 {w : World} {B e n : Nat} {ao : Option Addr} {c : Nat} {xs : List Value} (h : w.ownsRow B e 1 (.slice ao n c) n xs) (h0 : 0 < n) : ∃ g, ao = some ⟨g, 0, none⟩ ∧ B ≤ g ∧ g < w.heap.size ∧ ∀ j u, xs[j]? = some u → w.cell? ⟨g, j, none⟩ = some u := by
  rcases h.2 with ⟨hv, rfl⟩ | ⟨g, cap, cur, hv, _⟩
  · omega
  · cases hv
    have hlt := h.lt g rfl
    refine ⟨g, rfl, hlt.1, hlt.2, fun j u hj => ?_⟩
    rw [h.cellAt j (by have := (List.getElem?_eq_some_iff.1 hj).1; rw [h.1] at this; exact this)]
    exact hj

/-- while the characters of a rule are looked at -/
structure KI (W : World) (IT : Nat) (s : ByteArray) (pos : Nat) (v : Value) (L : List Kp.Bs) (w : World) : Prop where
  below : Below W.heap.size W w
  le : W.heap.size ≤ IT
  it : w.heap[IT]? = some (.stringIter s pos)
  row : w.ownsRow W.heap.size 9 1 v L.length (cellsS L)
theorem KI.ne {W w : World} {IT : Nat} {s : ByteArray} {pos : Nat} {v : Value} {L : List Kp.Bs} (h : KI W IT s pos v L w) : v.ownBlock ≠ some IT := by
  intro e
  rcases h.row.2 with ⟨rfl, _⟩ | ⟨g, cap, cur, rfl, _, hg, _⟩
  · simp [Value.ownBlock] at e
  · simp only [Value.ownBlock, Option.some.injEq] at e
    subst e
    rw [h.it] at hg
    cases hg
theorem KI.lt {W w : World} {IT : Nat} {s : ByteArray} {pos : Nat} {v : Value} {L : List Kp.Bs} (h : KI W IT s pos v L w) : IT < w.heap.size := (Array.getElem?_eq_some_iff.1 h.it).1
theorem KI.next {W w : World} {IT : Nat} {s : ByteArray} {pos : Nat} {v : Value} {L : List Kp.Bs} (h : KI W IT s pos v L w) (pos' : Nat) : KI W IT s pos' v L (w.iterAt IT s pos') := by
  refine ⟨below_iterAt h.below h.le s pos', h.le, iterAt_heap w _ s pos pos' h.it, h.row.1, ?_⟩
  have hne := h.ne
  rcases h.row.2 with hn | ⟨g, cap, cur, hv, hbg, hg, rest⟩
  · exact .inl hn
  · have hgI : g ≠ IT := by
      rintro rfl
      rw [hv] at hne
      exact hne rfl
    exact .inr ⟨g, cap, cur, hv, hbg, (iterAt_other w _ g s pos' hgI).trans hg, rest⟩
theorem KI.append {W w w2 : World} {IT : Nat} {s : ByteArray} {pos : Nat} {v v' : Value} {L : List Kp.Bs} {a : Kp.Bs} {ob : Obj} (h : KI W IT s pos v L w)
    (hown : w2.ownsRow W.heap.size 9 1 v' (L.length + 1) (cellsS L ++ [.string ⟨a.toArray⟩])) (hg : (w.alloc ob).grownBy w2 v.ownBlock) : KI W IT s pos v' (L ++ [a]) w2 := by
  have hlt := h.lt
  have hle := h.le
  have hr := h.row.lt
  have hs := h.below.size
  refine ⟨(h.below.alloc hs ob).grown hg (by simp; omega) (fun k hk => (hr k hk).1), h.le, ?_, ?_⟩
  · rw [hg.block IT (by simp; omega) (fun e => h.ne e.symm), Below.heap_alloc _ _ _ hlt]; exact h.it
  · have e1 : cellsS (L ++ [a]) = cellsS L ++ [.string ⟨a.toArray⟩] := by simp [cellsS]
    have e2 : (L ++ [a]).length = L.length + 1 := by simp
    rw [e1, e2]
    exact hown

theorem KI.start {W wr : World} {v : Value} {L : List Kp.Bs} (hb : Below W.heap.size W wr) (hrow : wr.ownsRow W.heap.size 9 1 v L.length (cellsS L)) (ob : Obj) (s : ByteArray) : KI W (wr.heap.size + 1) s 0 v L ((wr.alloc ob).iter s 0) := by
  have hs := hb.size
  have hz : (wr.alloc ob).heap.size = wr.heap.size + 1 := by simp
  refine ⟨(hb.alloc hs ob).alloc (by omega) (.stringIter s 0), by omega, ?_, (hrow.alloc ob).alloc (.stringIter s 0)⟩
  rw [← hz]
  exact World.iter_heap (wr.alloc ob) s 0
theorem contains_take (L : List Kp.Bs) (c : Kp.Bs) (j : Nat) (h : j < L.length) : (L.take (j + 1)).contains c = ((L.take j).contains c || L[j] == c) := by
  rw [List.take_succ_eq_append_getElem h]
  rw [Bool.eq_iff_iff]
  simp only [List.contains_iff_mem, List.mem_append, List.mem_singleton, Bool.or_eq_true, beq_iff_eq]
  constructor
  · rintro (h | h)
    · exact .inl h
    · exact .inr h.symm
  · rintro (h | h)
    · exact .inl h
    · exact .inr h.symm
theorem addK_len (cs L : List Kp.Bs) : (cs.foldl Kp.addK L).length ≤ L.length + cs.length := by
  induction cs generalizing L with
  | nil => simp
  | cons c cs ih =>
    have h1 : (Kp.addK L c).length ≤ L.length + 1 := by unfold Kp.addK; split <;> simp
    have := ih (Kp.addK L c)
    simp only [List.foldl_cons, List.length_cons]
    omega
def kUp (k : Nat) : List Kp.Bs := ((Kp.rules.take k).flatMap (fun r => Kp.cut3 r.out)).foldl Kp.addK []
theorem kUp_len : ∀ k : Fin 163, (kUp k.val).length ≤ 84 := by decide +kernel
theorem kUp_succ (k : Nat) (h : k < Kp.rules.length) : kUp (k + 1) = (Kp.cut3 (Kp.rules[k]).out).foldl Kp.addK (kUp k) := by
  unfold kUp
  rw [List.take_succ_eq_append_getElem h, List.flatMap_append, List.foldl_append]
  simp
theorem cut3_len : ∀ r ∈ Kp.rules, (Kp.cut3 r.out).length ≤ 4 := by decide +kernel

set_option maxRecDepth 100000 in
set_option maxHeartbeats 4000000 in
theorem kanaf_any (w : World) : Calls Tryz.prog 6 #[] w fun e w' => ∃ g cap, e = .returned (.slice (some ⟨g, 0, none⟩) 84 cap) ∧ w.heap.size ≤ g ∧ Below w.heap.size w w' ∧ ∀ k, (h : k < Kp.kanaL.length) → w'.cell? ⟨g, k, none⟩ = some (.string ⟨(Kp.kanaL[k]).toArray⟩) := by
  obtain ⟨i0, hi, hz0, hz1, hz2⟩ := info_parts info9
  go_enter Tryz.func6, Tryz.ntmps6
  go_wp2_with fail
  refine (rdefault_any w).mono ?_
  rintro e W ⟨g, cap, rfl, hg, hbW, hrow⟩
  have hR : RowAt W g := hrow
  have hglt := hR.lt
  have HR := Lib.hid hR
  clear hrow hR
  go_wp2_with fail
  go_loopw [1, 10] (fun v i wr => ∃ k : Nat, k ≤ 162 ∧ i = .int .i64 k ∧ Below W.heap.size W wr ∧ wr.ownsRow W.heap.size 9 1 v (kUp k).length (cellsS (kUp k))) (fun _ i _ => 162 - (intOf i).toNat)
  case atStart => exact ⟨0, by omega, rfl, Below.refl _ _, World.ownsRow_nil _ _ _ _⟩
  case round =>
    obtain ⟨k, hk, rfl, hb, hown⟩ := hrel
    by_cases hlt : k < 162
    · have hlt' : k < Kp.rules.length := by rw [Kp.rules_len]; exact hlt
      obtain ⟨e0, e1, e2⟩ := cellsR_at Kp.rules k hlt'
      have hR := HR.out.below hb
      have d0 := hR _ _ e0
      have d1 := hR _ _ e1
      have d2 := hR _ _ e2
      have hmem : Kp.rules[k] ∈ Kp.rules := List.getElem_mem hlt'
      have hsucc := kUp_succ k hlt'
      have hkl := kUp_len ⟨k, by omega⟩
      simp only at hkl
      generalize Kp.rules[k] = r at d0 d1 d2 hmem hsucc
      have HU := Lib.hid hsucc
      have hKt : Kp.Kt r.out (Kp.cut3 r.out) := ⟨(Kp.cut3_rule r hmem).1, (Kp.cut3_rule r hmem).2⟩
      have hcl := cut3_len r hmem
      generalize Kp.cut3 r.out = cs at hKt hcl HU
      generalize kUp k = L0 at hown hkl HU
      clear hsucc e0 e1 e2 hR hlt' hmem
      have hsw := hb.size
      have hdk : decide ((k : Int) < 162) = true := by simp; omega
      go_wp2_with fail
      clear hdk
      have hki : (k : Int) < 162 := by omega
      have hS0 := KI.start hb hown (.cells #[.string ⟨r.keys.toArray⟩, .string ⟨r.out.toArray⟩, .string ⟨r.next.toArray⟩] 60) ⟨r.out.toArray⟩
      generalize (wr.alloc (.cells #[.string ⟨r.keys.toArray⟩, .string ⟨r.out.toArray⟩, .string ⟨r.next.toArray⟩] 60)).iter ⟨r.out.toArray⟩ 0 = W0 at hS0 ⊢
      generalize wr.heap.size + 1 = IT at hS0 ⊢
      have hsz : (⟨r.out.toArray⟩ : ByteArray).size = 3 * cs.length := by have := hKt.len; simp [ByteArray.size]; omega
      have HKt := Lib.hid hKt
      clear hKt hb hown hsw d0 d1 d2
      generalize r.out = out at hS0 HKt hsz ⊢
      have HZ := Lib.hid hsz
      clear hsz
      go_loopg [1] cs.length (fun kq v wi => ∃ n : Nat, n + kq = cs.length ∧ KI W IT ⟨out.toArray⟩ (3 * n) v ((cs.take n).foldl Kp.addK L0) wi)
      case atStart => exact ⟨0, by omega, hS0⟩
      case round =>
        obtain ⟨wo, rfl⟩ : ∃ wo : World, wo = wr := ⟨_, rfl⟩
        obtain ⟨n, hn, hS⟩ := hrel
        by_cases hnl : n < cs.length
        · obtain ⟨rn, hd1, hd2, hd3⟩ := HKt.out.decode n hnl
          have hnx : ∀ ty, (Instr.next (.pointer (some ⟨IT, 0, none⟩)) true ty).run Tryz.prog wo = _ := fun ty => run_next_any_at wo IT ⟨out.toArray⟩ (3 * n) ty hS.it (by rw [HZ.out]; omega)
          rw [hd1] at hnx
          have hS2 := hS.next (3 * n + 3)
          simp only at hnx
          generalize wo.iterAt IT ⟨out.toArray⟩ (3 * n + 3) = W1 at hnx hS2
          have hsn : (cs.take (n + 1)).foldl Kp.addK L0 = Kp.addK ((cs.take n).foldl Kp.addK L0) cs[n] := by
            rw [List.take_succ_eq_append_getElem hnl, List.foldl_append]; rfl
          have HS := Lib.hid hsn
          have hll : ((cs.take n).foldl Kp.addK L0).length ≤ 100 := by
            have := addK_len (cs.take n) L0
            rw [List.length_take] at this
            omega
          have hconv : ∀ W' : World, (convert 21 9 (.int .i32 rn)).run Tryz.prog W' = .ok (.string ⟨(cs[n]).toArray⟩) W' := fun W' => by
            rw [run_convert_int_string (P := Tryz.prog) W' 21 9 .i32 rn (by simp [Tryz.underlying21]) Tryz.underlying9, hd2]
          generalize (cs.take n).foldl Kp.addK L0 = L at hS2 HS hll
          generalize cs[n] = c at hconv HS
          have hn1 : n + gk ≤ cs.length := by omega
          have hn2 : cs.length ≤ n + gk := by omega
          obtain ⟨av, cv, rfl⟩ := row_slice hS2.row
          clear hsn hS hd1 hd2 hn
          go_wp2_with fail
          go_loopw [6, 7] (fun t i wi => ∃ j : Nat, j ≤ L.length ∧ i = .int .i64 j ∧ t = .bool ((L.take j).contains c) ∧ wi = W1) (fun _ i _ => L.length - (intOf i).toNat)
          case atStart => exact ⟨0, by omega, rfl, rfl, rfl⟩
          case round =>
            obtain ⟨j, hj, rfl, rfl, hwi⟩ := hrel
            obtain rfl : W1 = wr := hwi.symm
            by_cases hjl : j < L.length
            · obtain ⟨ga, rfl, -, hgal, hcells⟩ := slice_cell1 hS2.row (by omega)
              have dj := hcells _ _ (cellsS_at L j hjl)
              have hct := contains_take L c j hjl
              have HC := Lib.hid hct
              generalize (L.take j).contains c = t at HC ⊢
              generalize L[j] = x at dj HC
              clear hct hcells
              cases t with
              | true =>
                go_wp2_with fail
                go_roundw
                case rel => exact ⟨j + 1, by omega, by go_num, by rw [HC.out]; rfl, trivial⟩
                case measure => simp [intOf]; omega
              | false =>
                cases hx : x == c with
                | true =>
                  go_wp2_with fail
                  go_roundw
                  case rel => exact ⟨j + 1, by omega, by go_num, by rw [HC.out, hx]; rfl, trivial⟩
                  case measure => simp [intOf]; omega
                | false =>
                  go_wp2_with fail
                  go_roundw
                  case rel => exact ⟨j + 1, by omega, by go_num, by rw [HC.out, hx]; rfl, trivial⟩
                  case measure => simp [intOf]; omega
            · have e : L.take j = L := List.take_of_length_le (by omega)
              rw [e]
              have hadd : Kp.addK L c = if L.contains c then L else L ++ [c] := rfl
              have HA := Lib.hid hadd
              have hszW := hS2.lt
              have hle := hS2.le
              have hbs := hS2.below.size
              clear e hadd
              cases hx : L.contains c with
              | true =>
                have he : (cs.take (n + 1)).foldl Kp.addK L0 = L := by rw [HS.out, HA.out, hx]; rfl
                have HE := Lib.hid he
                clear he hx
                go_wp2_with fail
                go_roundg (gk - 1)
                case rel => exact ⟨n + 1, by omega, by rw [HE.out]; exact hS2⟩
                case measure => omega
              | false =>
                have he : (cs.take (n + 1)).foldl Kp.addK L0 = L ++ [c] := by rw [HS.out, HA.out, hx]; rfl
                have HE := Lib.hid he
                clear he hx
                go_wp2_with (at_builtin; refine wpList_append_own _ rfl (.tmp 38) (.tmp 41) 29 rfl W.heap.size 9 i0 (.string ⟨#[]⟩) 1 16 Tryz.underlying29 hi hz0 hz1 hz2 rfl (by decide) _ L.length (cellsS L) rfl (hS2.row.alloc _) ⟨W1.heap.size, 0, none⟩ 1 1 [.string ⟨c.toArray⟩] rfl rfl (one_newT 9 W1 _) (one_str _) (by unfold maxLen; omega) (by omega) (by simp; omega) ?_)
                intro v' w2 hown' hgrow _
                have hS3 := hS2.append hown' hgrow
                clear hown' hgrow
                go_wp2_with fail
                go_roundg (gk - 1)
                case rel => exact ⟨n + 1, by omega, by rw [HE.out]; exact hS3⟩
                case measure => omega
        · have hnx : ∀ ty, (Instr.next (.pointer (some ⟨IT, 0, none⟩)) true ty).run Tryz.prog wo = _ := fun ty => run_next_end_at wo IT ⟨out.toArray⟩ (3 * n) ty hS.it (by rw [HZ.out]; omega)
          have e : cs.take n = cs := List.take_of_length_le (by omega)
          rw [e] at hS
          clear e
          go_wp2_with fail
          go_roundw
          case rel => exact ⟨k + 1, by omega, by go_num, hS.below, by rw [HU.out]; exact hS.row⟩
          case measure => simp [intOf]; omega
    · have hk2 : k = 162 := by omega
      subst hk2
      have e : kUp 162 = Kp.kanaL := by
        unfold kUp
        rw [List.take_of_length_le (by rw [Kp.rules_len]; omega)]
        exact Kp.kana_is
      rw [e, Kp.kana_len] at hown
      obtain ⟨av, cv, rfl⟩ := row_slice hown
      obtain ⟨ga, rfl, hga, hgal, hcells⟩ := slice_cell1 hown (by omega)
      clear e hlt hk
      go_wp2_with fail
      go_ret
      exact ⟨ga, cv, rfl, by have := hbW.size; omega, hbW.trans (hb.mono hbW.size), fun k h => hcells _ _ (cellsS_at Kp.kanaL k h)⟩
end Go.Proofs.YtmnbhjijphlanaaGreatDoor
