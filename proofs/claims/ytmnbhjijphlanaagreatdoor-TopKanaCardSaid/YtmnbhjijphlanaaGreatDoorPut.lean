/-
  put: a rule in its place in a list in ascending order.
-/
import Derived.Test.YtmnbhjijphlanaaGreatDoorRRun
namespace Go.Proofs.YtmnbhjijphlanaaGreatDoor
open Go.RowKit Mp Go.Lib

namespace Put
def step (r : Kp.Rl) (s : List Kp.Rl × Bool) (x : Kp.Rl) : List Kp.Rl × Bool := if !s.2 && Op.bytesLess r.keys x.keys then (s.1 ++ [r] ++ [x], true) else (s.1 ++ [x], s.2)
def scan (r : Kp.Rl) (l : List Kp.Rl) : List Kp.Rl × Bool := l.foldl (step r) ([], false)
def ins (l : List Kp.Rl) (r : Kp.Rl) : List Kp.Rl := if (scan r l).2 then (scan r l).1 else (scan r l).1 ++ [r]
theorem scan_snoc (r : Kp.Rl) (l : List Kp.Rl) (x : Kp.Rl) : scan r (l ++ [x]) = step r (scan r l) x := by simp [scan]
theorem scan_len (r : Kp.Rl) (l : List Kp.Rl) (s : List Kp.Rl × Bool) : (l.foldl (step r) s).1.length + (if (l.foldl (step r) s).2 then 0 else 1) = s.1.length + l.length + (if s.2 then 0 else 1) := by
  induction l generalizing s with
  | nil => obtain ⟨a, b⟩ := s; cases b <;> simp
  | cons x l ih =>
    rw [List.foldl_cons, ih]
    unfold step
    obtain ⟨a, b⟩ := s
    cases b <;> cases Op.bytesLess r.keys x.keys <;> simp <;> omega
theorem ins_len (l : List Kp.Rl) (r : Kp.Rl) : (ins l r).length = l.length + 1 := by
  have h := scan_len r l ([], false)
  change (scan r l).1.length + (if (scan r l).2 then 0 else 1) = _ at h
  unfold ins
  cases hb : (scan r l).2 with
  | true => rw [hb] at h; simp at h ⊢; omega
  | false => rw [hb] at h; simp at h ⊢; omega
end Put
theorem info60 : (Tryz.prog.info? 60).map (fun i => (i.zero, i.size, i.bytes)) = some (some (.agg #[.string ⟨#[]⟩, .string ⟨#[]⟩, .string ⟨#[]⟩]), 3, 48) := by kernel_rfl

theorem three_newT (t : TypeId) (wj : World) (a b c : Value) : ∀ j u, [a, b, c][j]? = some u → (wj.alloc (.cells #[a, b, c] t)).cell? ((⟨wj.heap.size, 0, none⟩ : Addr).add j) = some u := by
  intro j u h
  match j with
  | 0 => simp at h; subst h; simp [Addr.add]
  | 1 => simp at h; subst h; simp [Addr.add]
  | 2 => simp at h; subst h; simp [Addr.add]
  | j + 3 => simp at h
theorem slice_cell {w : World} {B e n : Nat} {ao : Option Addr} {c : Nat} {xs : List Value} (h : w.ownsRow B e 3 (.slice ao n c) n xs) (h0 : 0 < n) : ∃ g, ao = some ⟨g, 0, none⟩ ∧ B ≤ g ∧ g < w.heap.size ∧ ∀ j u, xs[j]? = some u → w.cell? ⟨g, j, none⟩ = some u := by
  rcases h.2 with ⟨hv, rfl⟩ | ⟨g, cap, cur, hv, _⟩
  · omega
  · cases hv
    have hlt := h.lt g rfl
    refine ⟨g, rfl, hlt.1, hlt.2, fun j u hj => ?_⟩
    rw [h.cellAt j (by have := (List.getElem?_eq_some_iff.1 hj).1; rw [h.1] at this; exact this)]
    exact hj

theorem row_base {w : World} {B B' e z : Nat} {v : Value} {n : Nat} {xs : List Value} (h : w.ownsRow B e z v n xs) (hB : B' ≤ B) : w.ownsRow B' e z v n xs :=
  ⟨h.1, h.2.imp id (fun ⟨g, cap, cur, h1, h2, h3⟩ => ⟨g, cap, cur, h1, Nat.le_trans hB h2, h3⟩)⟩
/-- while put goes on -/
structure PS (w0 : World) (r : Kp.Rl) (v : Value) (O : List Kp.Rl) (w : World) : Prop where
  below : Below w0.heap.size w0 w
  blk : w.heap[w0.heap.size]? = some (.cells #[.string ⟨r.keys.toArray⟩, .string ⟨r.out.toArray⟩, .string ⟨r.next.toArray⟩] 60 (0, 0))
  row : w.ownsRow (w0.heap.size + 1) 60 3 v O.length (cellsR O)
theorem PS.drewN {w0 w : World} {r : Kp.Rl} {v : Value} {O : List Kp.Rl} (h : PS w0 r v O w) (n : Nat) : PS w0 r v O (w.drewN n) := ⟨below_drewN h.below n, h.blk, h.row⟩
theorem PS.lt {w0 w : World} {r : Kp.Rl} {v : Value} {O : List Kp.Rl} (h : PS w0 r v O w) : w0.heap.size < w.heap.size := (Array.getElem?_eq_some_iff.1 h.blk).1
theorem PS.cells {w0 w : World} {r : Kp.Rl} {v : Value} {O : List Kp.Rl} (h : PS w0 r v O w) : w.cell? ⟨w0.heap.size, 0, none⟩ = some (.string ⟨r.keys.toArray⟩) ∧ w.cell? ⟨w0.heap.size, 1, none⟩ = some (.string ⟨r.out.toArray⟩) ∧ w.cell? ⟨w0.heap.size, 2, none⟩ = some (.string ⟨r.next.toArray⟩) :=
  ⟨by rw [Lib.cell_of_heap h.blk]; rfl, by rw [Lib.cell_of_heap h.blk]; rfl, by rw [Lib.cell_of_heap h.blk]; rfl⟩
theorem PS.append {w0 w w2 : World} {r x : Kp.Rl} {v v' : Value} {O : List Kp.Rl} {ob : Obj} (h : PS w0 r v O w)
    (hown : w2.ownsRow (w0.heap.size + 1) 60 3 v' (O.length + 1) (cellsR O ++ [.string ⟨x.keys.toArray⟩, .string ⟨x.out.toArray⟩, .string ⟨x.next.toArray⟩])) (hg : (w.alloc ob).grownBy w2 v.ownBlock) : PS w0 r v' (O ++ [x]) w2 := by
  have hlt := h.lt
  have hr := h.row.lt
  refine ⟨(h.below.alloc (by omega) ob).grown hg (by simp; omega) (fun k hk => by have := (hr k hk).1; omega), ?_, ?_⟩
  · rw [hg.block w0.heap.size (by simp; omega) (fun e => by have := (hr _ e.symm).1; omega), Below.heap_alloc _ _ _ hlt]; exact h.blk
  · rw [cellsR_snoc]
    have e : (O ++ [x]).length = O.length + 1 := by simp
    rw [e]
    exact hown

set_option maxRecDepth 100000 in
set_option maxHeartbeats 2000000 in
theorem put_any (rs : List Kp.Rl) (r : Kp.Rl) (ao : Option Addr) (cap : Nat) (w : World) (hl : rs.length ≤ 1000) (hv : w.ownsRow 0 60 3 (.slice ao rs.length cap) rs.length (cellsR rs)) :
    Calls Tryz.prog 29 #[.slice ao rs.length cap, .agg #[.string ⟨r.keys.toArray⟩, .string ⟨r.out.toArray⟩, .string ⟨r.next.toArray⟩]] w fun e w' => ∃ v, e = .returned v ∧ w'.ownsRow w.heap.size 60 3 v (Put.ins rs r).length (cellsR (Put.ins rs r)) ∧ Below w.heap.size w w' := by
  obtain ⟨i0, hi, hz0, hz1, hz2⟩ := info_parts info60
  go_enter Tryz.func29, Tryz.ntmps29
  go_wp2_with fail
  go_loopw [5, 6, 7] (fun o d i wr => ∃ (k : Nat) (O : List Kp.Rl) (dn : Bool), k ≤ rs.length ∧ i = .int .i64 k ∧ d = .bool dn ∧ Put.scan r (rs.take k) = (O, dn) ∧ PS w r o O wr) (fun _ _ i _ => rs.length - (intOf i).toNat)
  case atStart => exact ⟨0, [], false, Nat.zero_le _, rfl, rfl, by simp [Put.scan], (Below.refl _ _).alloc (Nat.le_refl _) _, alloc_new _ _, World.ownsRow_nil _ _ _ _⟩
  case round =>
    obtain ⟨k, O, dn, hk, rfl, rfl, hS, hP⟩ := hrel
    have hlen : O.length ≤ k + 1 := by
      have h := Put.scan_len r (rs.take k) ([], false)
      change (Put.scan r (rs.take k)).1.length + _ = _ at h
      rw [hS, List.length_take, Nat.min_eq_left hk] at h
      simp at h
      omega
    have hlen2 : dn = false → O.length ≤ k := by
      have h := Put.scan_len r (rs.take k) ([], false)
      change (Put.scan r (rs.take k)).1.length + (if (Put.scan r (rs.take k)).2 then 0 else 1) = _ at h
      rw [hS, List.length_take, Nat.min_eq_left hk] at h
      rintro rfl
      simp at h
      omega
    by_cases hlt : k < rs.length
    · obtain ⟨g, rfl, -, hglt, hcells⟩ := slice_cell hv (by omega)
      obtain ⟨hc0, hc1, hc2⟩ := cellsR_at rs k hlt
      have hwr : ∀ W, Below w.heap.size w W → W.cell? ⟨g, k * 3, none⟩ = some (.string ⟨(rs[k]).keys.toArray⟩) ∧ W.cell? ⟨g, k * 3 + 1, none⟩ = some (.string ⟨(rs[k]).out.toArray⟩) ∧ W.cell? ⟨g, k * 3 + 2, none⟩ = some (.string ⟨(rs[k]).next.toArray⟩) := fun W hW =>
        ⟨by rw [hW.cell (p := ⟨g, k * 3, none⟩) hglt]; exact hcells _ _ hc0, by rw [hW.cell (p := ⟨g, k * 3 + 1, none⟩) hglt]; exact hcells _ _ hc1, by rw [hW.cell (p := ⟨g, k * 3 + 2, none⟩) hglt]; exact hcells _ _ hc2⟩
      have hsc : Put.scan r (rs.take (k + 1)) = Put.step r (O, dn) rs[k] := by rw [List.take_succ_eq_append_getElem hlt, Put.scan_snoc, hS]
      generalize rs[k] = x at hwr hsc
      clear hc0 hc1 hc2 hS
      obtain ⟨d0, d1, d2⟩ := hwr wr hP.below
      obtain ⟨b0, b1, b2⟩ := hP.cells
      cases hd : (!dn && Op.bytesLess r.keys x.keys) with
      | false =>
        have hst : Put.step r (O, dn) x = (O ++ [x], dn) := by unfold Put.step; rw [if_neg (by simp [hd])]
        rw [hst] at hsc
        have HS := Lib.hid hsc
        clear hst hsc
        cases dn with
        | true =>
          go_wp2_with fail
          go_quiet (fail)
          have hPq := hP.drewN nq
          generalize wr.drewN nq = wq at hPq
          obtain ⟨d0, d1, d2⟩ := hwr wq hPq.below
          clear b0 b1 b2 hP
          have hsz := hPq.lt
          go_wp2_with (at_builtin; refine wpList_append_own _ rfl (.tmp 30) (.tmp 35) 36 rfl (w.heap.size + 1) 60 i0 (.agg #[.string ⟨#[]⟩, .string ⟨#[]⟩, .string ⟨#[]⟩]) 3 48 Tryz.underlying36 hi hz0 hz1 hz2 rfl (by decide) u5 O.length (cellsR O) rfl (hPq.row.alloc _) ⟨wq.heap.size, 0, none⟩ 1 1 [.string ⟨x.keys.toArray⟩, .string ⟨x.out.toArray⟩, .string ⟨x.next.toArray⟩] rfl rfl (three_newT 60 wq _ _ _) (three_one _ _ _) (by unfold maxLen; omega) (by omega) (by simp; omega) ?_)
          intro v' w2 hown' hgrow _
          have hP2 := hPq.append hown' hgrow
          clear hown' hgrow
          go_wp2_with fail
          go_roundw
          case rel => exact ⟨k + 1, O ++ [x], true, by omega, by go_num, rfl, HS.out, hP2⟩
          case measure => simp [intOf]; omega
        | false =>
          have hd' : Op.bytesLess r.keys x.keys = false := by simpa using hd
          go_wp2_with fail
          go_quiet (fail)
          have hPq := hP.drewN nq
          generalize wr.drewN nq = wq at hPq
          obtain ⟨d0, d1, d2⟩ := hwr wq hPq.below
          clear b0 b1 b2 hP
          have hsz := hPq.lt
          go_wp2_with (at_builtin; refine wpList_append_own _ rfl (.tmp 30) (.tmp 35) 36 rfl (w.heap.size + 1) 60 i0 (.agg #[.string ⟨#[]⟩, .string ⟨#[]⟩, .string ⟨#[]⟩]) 3 48 Tryz.underlying36 hi hz0 hz1 hz2 rfl (by decide) u5 O.length (cellsR O) rfl (hPq.row.alloc _) ⟨wq.heap.size, 0, none⟩ 1 1 [.string ⟨x.keys.toArray⟩, .string ⟨x.out.toArray⟩, .string ⟨x.next.toArray⟩] rfl rfl (three_newT 60 wq _ _ _) (three_one _ _ _) (by unfold maxLen; omega) (by omega) (by simp; omega) ?_)
          intro v' w2 hown' hgrow _
          have hP2 := hPq.append hown' hgrow
          clear hown' hgrow
          go_wp2_with fail
          go_roundw
          case rel => exact ⟨k + 1, O ++ [x], false, by omega, by go_num, rfl, HS.out, hP2⟩
          case measure => simp [intOf]; omega
      | true =>
        have hst : Put.step r (O, dn) x = (O ++ [r] ++ [x], true) := by unfold Put.step; rw [if_pos (by simp [hd])]
        rw [hst] at hsc
        have HS := Lib.hid hsc
        clear hst hsc
        cases dn with
        | true => simp at hd
        | false =>
          have hd' : Op.bytesLess r.keys x.keys = true := by simpa using hd
          have hlen3 := hlen2 rfl
          clear hlen2 hlen
          go_wp2_with fail
          go_quiet (fail)
          have hPq := hP.drewN nq
          generalize wr.drewN nq = wq at hPq
          obtain ⟨d0, d1, d2⟩ := hwr wq hPq.below
          obtain ⟨b0, b1, b2⟩ := hPq.cells
          clear hP
          have hsz := hPq.lt
          go_wp2_with (at_builtin; refine wpList_append_own _ rfl (.tmp 26) (.tmp 28) 36 rfl (w.heap.size + 1) 60 i0 (.agg #[.string ⟨#[]⟩, .string ⟨#[]⟩, .string ⟨#[]⟩]) 3 48 Tryz.underlying36 hi hz0 hz1 hz2 rfl (by decide) u5 O.length (cellsR O) rfl (hPq.row.alloc _) ⟨wq.heap.size, 0, none⟩ 1 1 [.string ⟨r.keys.toArray⟩, .string ⟨r.out.toArray⟩, .string ⟨r.next.toArray⟩] rfl rfl (three_newT 60 wq _ _ _) (three_one _ _ _) (by unfold maxLen; omega) (by omega) (by simp; omega) ?_)
          intro v' w2 hown' hgrow _
          have hP2 := hPq.append hown' hgrow
          clear hown' hgrow hPq
          obtain ⟨d0, d1, d2⟩ := hwr w2 hP2.below
          clear b0 b1 b2
          have hsz2 := hP2.lt
          have hl2 : (O ++ [r]).length = O.length + 1 := by simp
          generalize O ++ [r] = O2 at hP2 hl2 HS
          go_wp2_with (at_builtin; refine wpList_append_own _ rfl (.tmp 30) (.tmp 35) 36 rfl (w.heap.size + 1) 60 i0 (.agg #[.string ⟨#[]⟩, .string ⟨#[]⟩, .string ⟨#[]⟩]) 3 48 Tryz.underlying36 hi hz0 hz1 hz2 rfl (by decide) _ O2.length (cellsR O2) rfl (hP2.row.alloc _) ⟨w2.heap.size, 0, none⟩ 1 1 [.string ⟨x.keys.toArray⟩, .string ⟨x.out.toArray⟩, .string ⟨x.next.toArray⟩] rfl rfl (three_newT 60 w2 _ _ _) (three_one _ _ _) (by unfold maxLen; omega) (by omega) (by simp; omega) ?_)
          intro v' w3 hown' hgrow _
          have hP3 := hP2.append (x := x) (by rw [hl2]; exact hown') hgrow
          clear hown' hgrow
          go_wp2_with fail
          go_roundw
          case rel => exact ⟨k + 1, O2 ++ [x], true, by omega, by go_num, rfl, HS.out, hP3⟩
          case measure => simp [intOf]; omega
    · have hk' : k = rs.length := by omega
      rw [hk', List.take_of_length_le (Nat.le_refl _)] at hS
      have HS := Lib.hid hS
      clear hS hk'
      cases dn with
      | true =>
        go_wp2_with fail
        go_ret
        have e : Put.ins rs r = O := by unfold Put.ins; rw [HS.out]; simp
        rw [e]
        exact ⟨_, rfl, row_base hP.row (by omega), hP.below⟩
      | false =>
        obtain ⟨b0, b1, b2⟩ := hP.cells
        have hsz := hP.lt
        go_wp2_with (at_builtin; refine wpList_append_own _ rfl (.tmp 39) (.tmp 41) 36 rfl (w.heap.size + 1) 60 i0 (.agg #[.string ⟨#[]⟩, .string ⟨#[]⟩, .string ⟨#[]⟩]) 3 48 Tryz.underlying36 hi hz0 hz1 hz2 rfl (by decide) u5 O.length (cellsR O) rfl (hP.row.alloc _) ⟨wr.heap.size, 0, none⟩ 1 1 [.string ⟨r.keys.toArray⟩, .string ⟨r.out.toArray⟩, .string ⟨r.next.toArray⟩] rfl rfl (three_newT 60 wr _ _ _) (three_one _ _ _) (by unfold maxLen; omega) (by omega) (by simp; omega) ?_)
        intro v' w2 hown' hgrow _
        have hP2 := hP.append hown' hgrow
        clear hown' hgrow hP
        go_wp2_with fail
        go_ret
        have e : Put.ins rs r = O ++ [r] := by unfold Put.ins; rw [HS.out]; simp
        rw [e]
        exact ⟨_, rfl, row_base hP2.row (by omega), hP2.below⟩
end Go.Proofs.YtmnbhjijphlanaaGreatDoor
