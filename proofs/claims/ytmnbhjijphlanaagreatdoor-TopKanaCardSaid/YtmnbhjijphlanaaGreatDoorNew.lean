/-
  New: the automaton of the rules of the document.
-/
import Derived.Test.YtmnbhjijphlanaaGreatDoorCheck
import Derived.Test.YtmnbhjijphlanaaGreatDoorAuto1
namespace Go.Proofs.YtmnbhjijphlanaaGreatDoor
open Go.RowKit Mp Go.Shelf Go.Lib

/-- the proper beginnings of the keys of rules, and all their keys -/
def prefs (l : List Kp.Rl) : List Kp.Bs := l.flatMap (fun r => (List.range r.keys.length).map (fun i => r.keys.take i))
def keysOf (l : List Kp.Rl) : Kp.Bs := l.flatMap (·.keys)
/-- the automaton while New builds it: its four blocks -/
structure NI (w0 : World) (N Q A U : Nat) (rs : List Kp.Rl) (ps : List Kp.Bs) (ks : Kp.Bs) (w : World) : Prop where
  le : w0.heap.size ≤ N ∧ N < Q ∧ Q < A ∧ A < U
  rm : MapIs w N (ent strV ruV (rs.map fun r => (r.keys, r)))
  pm : ∃ PM : List (Kp.Bs × Bool), MapIs w Q (ent strV Value.bool PM) ∧ ∀ s, (Al.get PM s).getD false = ps.contains s
  blk : w.heap[A]? = some (.cells #[.map (some N), .map (some Q), .slice none 0 0] 50 (0, 0))
  used : ∃ T : Array Value, w.heap[U]? = some (.cells T 51 (0, 0)) ∧ T.size = 256 ∧ ∀ c : Nat, c < 256 → T[c]? = some (.bool (ks.contains c.toUInt8))
  below : Below w0.heap.size w0 w
variable {w0 w w' : World} {N Q A U : Nat} {rs : List Kp.Rl} {ps : List Kp.Bs} {ks : Kp.Bs}
theorem NI.lt (h : NI w0 N Q A U rs ps ks w) : U < w.heap.size := by
  obtain ⟨T, hT, _⟩ := h.used
  exact (Array.getElem?_eq_some_iff.1 hT).1
theorem NI.later (h : NI w0 N Q A U rs ps ks w) (hb : Below w.heap.size w w') : NI w0 N Q A U rs ps ks w' := by
  have hlt := h.lt
  obtain ⟨⟨n0, n1, n2, n3⟩, rm, ⟨PM, p1, p2⟩, blk, ⟨T, u1, u2, u3⟩, below⟩ := h
  exact ⟨⟨n0, n1, n2, n3⟩, rm.below hb (by omega), ⟨PM, p1.below hb (by omega), p2⟩, (hb.block _ (by omega)).trans blk, ⟨T, (hb.block _ (by omega)).trans u1, u2, u3⟩, below.trans (hb.mono (by omega))⟩
theorem some_ne {a b : Nat} (h : a ≠ b) : some a ≠ some b := fun e => h (Option.some.inj e)
theorem NI.addRule {r : Kp.Rl} (h : NI w0 N Q A U rs ps ks w) (hM : MapIs w' N (ent strV ruV (Al.put (rs.map fun r => (r.keys, r)) r.keys r))) (hg : w.grownBy w' (some N))
    (hp : Al.put (rs.map fun r => (r.keys, r)) r.keys r = (rs ++ [r]).map fun r => (r.keys, r)) : NI w0 N Q A U (rs ++ [r]) ps ks w' := by
  have hlt := h.lt
  obtain ⟨⟨n0, n1, n2, n3⟩, rm, ⟨PM, p1, p2⟩, blk, ⟨T, u1, u2, u3⟩, below⟩ := h
  exact ⟨⟨n0, n1, n2, n3⟩, by rw [← hp]; exact hM, ⟨PM, p1.grown hg (some_ne (by omega)), p2⟩, (hg.block _ (by omega) (some_ne (by omega))).trans blk, ⟨T, (hg.block _ (by omega) (some_ne (by omega))).trans u1, u2, u3⟩, below.grown hg (by have := below.size; omega) (fun k hk => by cases hk; exact n0)⟩
theorem NI.addPart {PM : List (Kp.Bs × Bool)} {x : Kp.Bs} (h : NI w0 N Q A U rs ps ks w) (p2 : ∀ s, (Al.get PM s).getD false = ps.contains s)
    (hM : MapIs w' Q (ent strV Value.bool (Al.put PM x true))) (hg : w.grownBy w' (some Q)) : NI w0 N Q A U rs (ps ++ [x]) ks w' := by
  have hlt := h.lt
  obtain ⟨⟨n0, n1, n2, n3⟩, rm, -, blk, ⟨T, u1, u2, u3⟩, below⟩ := h
  refine ⟨⟨n0, n1, n2, n3⟩, rm.grown hg (some_ne (by omega)), ⟨_, hM, fun s => ?_⟩, (hg.block _ (by omega) (some_ne (by omega))).trans blk, ⟨T, (hg.block _ (by omega) (some_ne (by omega))).trans u1, u2, u3⟩, below.grown hg (by have := below.size; omega) (fun k hk => by cases hk; omega)⟩
  rw [Al.get_put]
  by_cases hx : x = s
  · simp [hx]
  · have hx' : ¬ s = x := fun e => hx e.symm
    rw [if_neg hx, p2]
    simp [List.contains_eq_mem, hx']
theorem NI.addKey (c : UInt8) (h : NI w0 N Q A U rs ps ks w) : NI w0 N Q A U rs ps (ks ++ [c]) (w.setCell ⟨U, c.toNat, none⟩ (.bool true)) := by
  have hlt := h.lt
  obtain ⟨⟨n0, n1, n2, n3⟩, rm, ⟨PM, p1, p2⟩, blk, ⟨T, u1, u2, u3⟩, below⟩ := h
  have hne : ∀ k, k ≠ U → (w.setCell ⟨U, c.toNat, none⟩ (.bool true)).heap[k]? = w.heap[k]? := fun k hk => Below.heap_setCell _ _ _ _ hk
  refine ⟨⟨n0, n1, n2, n3⟩, rm.of_block (hne _ (by omega)), ⟨PM, p1.of_block (hne _ (by omega)), p2⟩, (hne _ (by omega)).trans blk, ⟨T.setIfInBounds c.toNat (.bool true), ?_, by simpa using u2, ?_⟩, below.setCell (p := ⟨U, c.toNat, none⟩) (by show _ ≤ U; omega) _⟩
  · simp [World.setCell, Array.getElem?_modify, u1]
  · intro i hi
    rw [Array.getElem?_setIfInBounds]
    by_cases hc : c.toNat = i
    · subst hc
      simp [u2, hi]
    · rw [if_neg hc, u3 i hi]
      have : ¬ i.toUInt8 = c := by
        rintro rfl
        apply hc
        simp [Nat.toUInt8]; omega
      simp [List.contains_eq_mem, this]
theorem zeros51 : Tryz.zeroCells51 = Array.replicate 256 (.bool false) := by kernel_rfl
theorem prefs_snoc (l : List Kp.Rl) (r : Kp.Rl) : prefs (l ++ [r]) = prefs l ++ (List.range r.keys.length).map (fun i => r.keys.take i) := by simp [prefs]
theorem keysOf_snoc (l : List Kp.Rl) (r : Kp.Rl) : keysOf (l ++ [r]) = keysOf l ++ r.keys := by simp [keysOf]
theorem rule_new (k : Nat) (hk : k < Kp.rules.length) : Al.put ((Kp.rules.take k).map (fun r => (r.keys, r))) (Kp.rules[k]).keys Kp.rules[k] = (Kp.rules.take k ++ [Kp.rules[k]]).map (fun r => (r.keys, r)) := by
  have hn : Al.get ((Kp.rules.take k).map (fun r => (r.keys, r))) (Kp.rules[k]).keys = none := by
    cases h : Al.get ((Kp.rules.take k).map (fun r => (r.keys, r))) (Kp.rules[k]).keys with
    | none => rfl
    | some v =>
      have h1 := (Al.get_isSome_iff _ _).1 (by rw [h]; rfl : (Al.get ((Kp.rules.take k).map (fun r => (r.keys, r))) (Kp.rules[k]).keys).isSome = true)
      have h2 := (Al.get_isSome_iff ((Kp.rules.take k).map (fun r => (r.keys, true))) (Kp.rules[k]).keys).2 (by simpa [Function.comp_def] using h1)
      rw [key_new k hk] at h2
      cases h2
  rw [put_new _ _ _ hn, List.map_append]
  rfl
theorem ni_start (w w1 : World) (hb1 : Below w.heap.size w w1) :
    NI w w1.heap.size (w1.heap.size + 1) (w1.heap.size + 1 + 1) (w1.heap.size + 1 + 1 + 1) [] [] [] ((((w1.alloc (Obj.map #[] 0)).alloc (Obj.map #[] 0)).alloc (Obj.cells #[Value.map (some w1.heap.size), Value.map (some (w1.heap.size + 1)), Value.slice none 0 0] 50)).alloc (Obj.cells Tryz.zeroCells51 51)) := by
  have s1 := hb1.size
  have m1 : MapIs (w1.alloc (Obj.map #[] 0)) w1.heap.size [] := mapIs_made w1
  have m2 : MapIs ((w1.alloc (Obj.map #[] 0)).alloc (Obj.map #[] 0)) (w1.heap.size + 1) [] := by simpa using mapIs_made (w1.alloc (Obj.map #[] 0))
  have al : ∀ (W : World) (o : Obj) (k : Nat), k < W.heap.size → (W.alloc o).heap[k]? = W.heap[k]? := fun W o k h => Below.heap_alloc W o k h
  refine ⟨⟨s1, by omega, by omega, by omega⟩, ?_, ⟨[], ?_, fun s => rfl⟩, ?_, ⟨Tryz.zeroCells51, ?_, by rw [zeros51]; simp, fun c hc => by rw [zeros51]; simp [hc]⟩, (((hb1.alloc s1 _).alloc (by simp; omega) _).alloc (by simp; omega) _).alloc (by simp; omega) _⟩
  · exact ((m1.of_block (al _ _ _ (by simp))).of_block (al _ _ _ (by simp; omega))).of_block (al _ _ _ (by simp; omega))
  · exact (m2.of_block (al _ _ _ (by simp))).of_block (al _ _ _ (by simp))
  · rw [al _ _ _ (by simp)]
    have := alloc_new ((w1.alloc (Obj.map #[] 0)).alloc (Obj.map #[] 0)) (Obj.cells #[Value.map (some w1.heap.size), Value.map (some (w1.heap.size + 1)), Value.slice none 0 0] 50)
    simpa using this
  · have := alloc_new (((w1.alloc (Obj.map #[] 0)).alloc (Obj.map #[] 0)).alloc (Obj.cells #[Value.map (some w1.heap.size), Value.map (some (w1.heap.size + 1)), Value.slice none 0 0] 50)) (Obj.cells Tryz.zeroCells51 51)
    simpa using this

theorem run_index51 (T : Array Value) (c : Nat) (b : Bool) (hc : c < 256) (h : T[c]? = some (.bool b)) (W : World) : (Instr.index 51 (.agg T) (.int .i64 c)).run Tryz.prog W = .ok (.bool b) W := by
  have hn : (0 : Int) ≤ c ∧ (c : Int) < ((256 : Nat) : Int) := by omega
  simp [Instr.index, run_underlying Tryz.underlying51, asIntOf, hn, go_sem, h, Go.part, isAgg, run_underlying Tryz.underlying4]
  intro h
  omega
theorem prefs_part (s : Kp.Bs) : (prefs Kp.rules).contains s = Kp.part s := by
  rw [Bool.eq_iff_iff]
  unfold Kp.part prefs
  simp only [List.contains_iff_mem, List.mem_flatMap, List.mem_map, List.mem_range, List.any_eq_true, Bool.and_eq_true, decide_eq_true_eq, beq_iff_eq]
  constructor
  · rintro ⟨r, hr, i, hi, rfl⟩
    refine ⟨r, hr, by simp; omega, ?_⟩
    rw [List.length_take, Nat.min_eq_left (by omega)]
  · rintro ⟨r, hr, h1, h2⟩
    exact ⟨r, hr, s.length, h1, h2⟩
/-- the keys among the first c bytes -/
def seen (ks : Kp.Bs) (c : Nat) : Kp.Bs := ((List.range c).map Nat.toUInt8).filter (ks.contains ·)
theorem seen_succ (ks : Kp.Bs) (c : Nat) : seen ks (c + 1) = seen ks c ++ if ks.contains c.toUInt8 then [c.toUInt8] else [] := by
  unfold seen
  rw [List.range_succ, List.map_append, List.filter_append]
  congr 1
  simp only [List.map_cons, List.map_nil, List.filter_cons, List.filter_nil]
theorem seen_len (ks : Kp.Bs) (c : Nat) : (seen ks c).length ≤ c := Nat.le_trans (List.length_filter_le _ _) (by simp)
theorem seen_all : seen (keysOf Kp.rules) 256 = Kp.akeys := by decide +kernel
def byteV (l : Kp.Bs) : List Value := l.map (fun c => Value.int .u8 c.toNat)
structure K3 (w0 : World) (N Q A U : Nat) (PM : List (Kp.Bs × Bool)) (l : Kp.Bs) (v : Value) (w : World) : Prop where
  rm : MapIs w N (ent strV ruV (Kp.rules.map fun r => (r.keys, r)))
  pm : MapIs w Q (ent strV Value.bool PM)
  blk : w.heap[A]? = some (.cells #[.map (some N), .map (some Q), v] 50 (0, 0))
  own : w.ownsRow (U + 1) 5 1 v l.length (byteV l)
  below : Below w0.heap.size w0 w
  lt : U < w.heap.size
set_option maxRecDepth 100000 in
set_option maxHeartbeats 2000000 in
theorem new_any (g cap : Nat) (w : World) (hR : RowAt w g) (hT : Tabs w) :
    Calls Tryz.prog 4 #[.slice (some ⟨g, 0, none⟩) 162 cap] w fun e w' => ∃ a br bp bk cp PM, e = .returned (.tuple #[.pointer (some ⟨a, 0, none⟩), .int .i64 0]) ∧ AutoAt w'.heap.size w' a br bp bk cp PM ∧ Below w.heap.size w w' := by
  have hmm := @run_makeMap Tryz.prog
  have hch := check_any g cap w hR hT
  go_enter Tryz.func4, Tryz.ntmps4
  go_wp2_with (go_at_call 13; refine hch.mono ?_; rintro e w1 ⟨rfl, hb1⟩)
  have hst := ni_start w w1 hb1
  generalize (((w1.alloc (Obj.map #[] 0)).alloc (Obj.map #[] 0)).alloc (Obj.cells #[Value.map (some w1.heap.size), Value.map (some (w1.heap.size + 1)), Value.slice none 0 0] 50)).alloc (Obj.cells Tryz.zeroCells51 51) = ws at hst
  clear hb1
  generalize w1.heap.size + 1 + 1 + 1 = U at hst
  generalize w1.heap.size + 1 + 1 = A at hst
  generalize w1.heap.size + 1 = Q at hst
  generalize w1.heap.size = N at hst
  go_loopw [23] (fun i wr => ∃ k : Nat, k ≤ 162 ∧ i = .int .i64 k ∧ NI w N Q A U (Kp.rules.take k) (prefs (Kp.rules.take k)) (keysOf (Kp.rules.take k)) wr) (fun i _ => 162 - (intOf i).toNat)
  case atStart => exact ⟨0, Nat.zero_le _, rfl, hst⟩
  case round =>
    obtain ⟨k, hkl, rfl, hI⟩ := hrel
    by_cases hlt : k < 162
    · have hlt' : k < Kp.rules.length := by rw [Kp.rules_len]; exact hlt
      obtain ⟨hc0, hc1, hc2⟩ := cellsR_at Kp.rules k hlt'
      have hRr := hR.below hI.below
      have d0 := hRr _ _ hc0
      have d1 := hRr _ _ hc1
      have d2 := hRr _ _ hc2
      have hput := rule_new k hlt'
      have htake : Kp.rules.take (k + 1) = Kp.rules.take k ++ [Kp.rules[k]] := List.take_succ_eq_append_getElem hlt'
      have hshort := (Kp.rules_next _ (List.getElem_mem hlt')).2
      generalize Kp.rules[k] = r at hc0 hc1 hc2 d0 d1 d2 hput htake hshort
      generalize Kp.rules.take k = rs at hI hput htake
      obtain ⟨w2, hw2⟩ : ∃ w2, w2 = wr.alloc (.cells #[.string ⟨r.keys.toArray⟩, .string ⟨r.out.toArray⟩, .string ⟨r.next.toArray⟩] 53) := ⟨_, rfl⟩
      have hb2 : Below wr.heap.size wr w2 := by rw [hw2]; exact (Below.refl _ _).alloc (Nat.le_refl _) _
      have hblk : w2.heap[wr.heap.size]? = some (.cells #[.string ⟨r.keys.toArray⟩, .string ⟨r.out.toArray⟩, .string ⟨r.next.toArray⟩] 53 (0, 0)) := by rw [hw2]; exact alloc_new _ _
      have hI2 := hI.later hb2
      have e0 : w2.cell? ⟨wr.heap.size, 0, none⟩ = some (.string ⟨r.keys.toArray⟩) := by rw [Lib.cell_of_heap hblk]; rfl
      have e1 : w2.cell? ⟨wr.heap.size, 1, none⟩ = some (.string ⟨r.out.toArray⟩) := by rw [Lib.cell_of_heap hblk]; rfl
      have e2 : w2.cell? ⟨wr.heap.size, 2, none⟩ = some (.string ⟨r.next.toArray⟩) := by rw [Lib.cell_of_heap hblk]; rfl
      have a0 : w2.cell? ⟨A, 0, none⟩ = some (.map (some N)) := by rw [Lib.cell_of_heap hI2.blk]; rfl
      go_wp2_with fail
      rw [← hw2]
      clear hw2
      go_still_tail 7, (by kernel_rfl)
      change wpList _ _ _ _ _ w2.drew
      refine wpList_update _ rfl (.tmp 30) (.tmp 32) (.tmp 33) 47 rfl keyBy_s Tryz.underlying47 N _ rfl hI2.rm r.keys r rfl rfl ?_
      intro w3 hM3 hg3
      have hg3' : w2.grownBy w3 (some N) := ⟨hg3.os, hg3.tape, hg3.output, hg3.size, hg3.block⟩
      have hI3 := hI2.addRule hM3 hg3' hput
      have hblk3 : w3.heap[wr.heap.size]? = some (.cells #[.string ⟨r.keys.toArray⟩, .string ⟨r.out.toArray⟩, .string ⟨r.next.toArray⟩] 53 (0, 0)) := (hg3'.block _ (Array.getElem?_eq_some_iff.1 hblk).1 (some_ne (by have := hI.lt; have := hI.le; omega))).trans hblk
      have e3 : w3.cell? ⟨wr.heap.size, 0, none⟩ = some (.string ⟨r.keys.toArray⟩) := by rw [Lib.cell_of_heap hblk3]; rfl
      have hwrlt := hI.lt
      clear hM3 hg3 hg3' e0 e1 e2 a0 hI2 hblk hb2 d0 d1 d2 hRr hc0 hc1 hc2 hI hch
      go_wp2_with fail
      go_loopw [37] (fun i wi => ∃ j : Nat, j ≤ r.keys.length ∧ i = .int .i64 j ∧ NI w N Q A U (rs ++ [r]) (prefs rs ++ (List.range j).map (fun i => r.keys.take i)) (keysOf rs ++ r.keys.take j) wi ∧ wi.heap[wr.heap.size]? = some (.cells #[.string ⟨r.keys.toArray⟩, .string ⟨r.out.toArray⟩, .string ⟨r.next.toArray⟩] 53 (0, 0))) (fun i _ => r.keys.length - (intOf i).toNat)
      case atStart => exact ⟨0, Nat.zero_le _, rfl, by simpa using hI3, hblk3⟩
      case round =>
        obtain ⟨wo, rfl⟩ : ∃ wo : World, wo = wr := ⟨_, rfl⟩
        clear hI3 hblk3 e3
        obtain ⟨j, hj, rfl, hIj, hbj⟩ := hrel
        by_cases hjl : j < r.keys.length
        · have e3 : wo.cell? ⟨wr.heap.size, 0, none⟩ = some (.string ⟨r.keys.toArray⟩) := by rw [Lib.cell_of_heap hbj]; rfl
          have a1 : wo.cell? ⟨A, 1, none⟩ = some (.map (some Q)) := by rw [Lib.cell_of_heap hIj.blk]; rfl
          obtain ⟨PM, p1, p2⟩ := hIj.pm
          have hsz : (⟨r.keys.toArray⟩ : ByteArray).size = r.keys.length := by simp [ByteArray.size]
          have hsl : ∀ W : World, (Instr.slice 9 (.string ⟨r.keys.toArray⟩) none (some (.int .i64 j)) none).run Tryz.prog W = .ok (.string ⟨(r.keys.take j).toArray⟩) W := fun W => by
            rw [run_slice_string_h (P := Tryz.prog) W 9 _ Tryz.underlying9 .i64 (j : Int) (by omega) (by rw [hsz]; omega)]
            rw [show ((⟨r.keys.toArray⟩ : ByteArray).extract 0 (j : Int).toNat) = ⟨(r.keys.take j).toArray⟩ from ByteArray.ext (Array.toList_inj.1 (by simp))]
          go_wp2_with fail
          go_still_tail 8, (by kernel_rfl)
          change wpList _ _ _ _ _ wo.drew
          refine wpList_update _ rfl (.tmp 43) (.tmp 47) (.const (.bool true)) 48 rfl keyBy_s Tryz.underlying48 Q PM rfl p1 (r.keys.take j) true rfl rfl ?_
          intro w4 hM4 hg4
          have hg4' : wo.grownBy w4 (some Q) := ⟨hg4.os, hg4.tape, hg4.output, hg4.size, hg4.block⟩
          have hI4 := hIj.addPart p2 hM4 hg4'
          have hbj4 : w4.heap[wr.heap.size]? = some (.cells #[.string ⟨r.keys.toArray⟩, .string ⟨r.out.toArray⟩, .string ⟨r.next.toArray⟩] 53 (0, 0)) := (hg4'.block _ (Array.getElem?_eq_some_iff.1 hbj).1 (some_ne (by have := hIj.le; omega))).trans hbj
          have e4 : w4.cell? ⟨wr.heap.size, 0, none⟩ = some (.string ⟨r.keys.toArray⟩) := by rw [Lib.cell_of_heap hbj4]; rfl
          have hI5 := hI4.addKey (r.keys[j]'hjl)
          have htk : r.keys.take (j + 1) = r.keys.take j ++ [r.keys[j]'hjl] := List.take_succ_eq_append_getElem hjl
          have hix : (⟨r.keys.toArray⟩ : ByteArray)[j]'(by rw [hsz]; exact hjl) = r.keys[j]'hjl := by simp [ByteArray.getElem_eq_getElem_data]
          have hc := UInt8.toNat_lt (r.keys[j]'hjl)
          obtain ⟨T, u1, u2, u3⟩ := hI4.used
          have d5 : w4.cell? ⟨U, (r.keys[j]'hjl).toNat, none⟩ = _ := (Lib.cell_of_heap u1 _).trans (u3 _ hc)
          have f5 : w4.frozen? ⟨U, (r.keys[j]'hjl).toNat, none⟩ = false := Lib.frozen_of_heap u1 _
          generalize r.keys[j]'hjl = c at hI5 htk hix hc d5 f5
          have hl53 := hI4.le
          clear hIj hbj e3 a1 hI4 u1 u3 hM4 hg4 hg4'
          go_wp2_with fail
          go_roundw
          case rel =>
            refine ⟨j + 1, by omega, by go_num, ?_, (Below.heap_setCell _ _ _ _ (by show wr.heap.size ≠ U; omega)).trans hbj4⟩
            rw [List.range_succ, List.map_append, ← List.append_assoc, htk, ← List.append_assoc]
            exact hI5
          case measure => simp [intOf]; omega
        · obtain rfl : j = r.keys.length := by omega
          rw [List.take_length] at hIj
          go_wp2_with fail
          go_roundw
          case rel => exact ⟨k + 1, by omega, by go_num, by rw [htake, prefs_snoc, keysOf_snoc]; exact hIj⟩
          case measure => simp [intOf]; omega
    · have hk : Kp.rules.take k = Kp.rules := List.take_of_length_le (by rw [Kp.rules_len]; omega)
      rw [hk] at hI
      have hle := hI.le
      have hUlt := hI.lt
      obtain ⟨-, rm, ⟨PM, p1, p2⟩, blk, ⟨T, u1, u2, u3⟩, hbel⟩ := hI
      have hz51 : (Tryz.prog.info? 51).map (·.size) = some T.size := by rw [u2]; kernel_rfl
      go_wp2_with fail
      refine wp_load_row 51 (.tmp 6) rfl U rfl 51 T (0, 0) _ u1 Tryz.underlying51 rfl hz51 ?_
      go_wp2_with fail
      have hK0 : K3 w N Q A U PM (seen (keysOf Kp.rules) 0) (.slice none 0 0) wr := ⟨rm, p1, blk, World.ownsRow_nil _ _ _ _, hbel, hUlt⟩
      clear hlt hkl hk rm p1 blk hbel u1 hz51 hUlt
      generalize hks : keysOf Kp.rules = ks at u3 hK0
      generalize decide ((k : Int) < 162) = dk
      generalize (k : Int) = kk
      go_loopw [56] (fun i wi => ∃ c : Nat, c ≤ 256 ∧ i = .int .i64 c ∧ ∃ v, K3 w N Q A U PM (seen ks c) v wi) (fun i _ => 256 - (intOf i).toNat)
      case atStart => exact ⟨0, by omega, rfl, _, hK0⟩
      case round =>
        obtain ⟨wo, rfl⟩ : ∃ wo : World, wo = wr := ⟨_, rfl⟩
        clear hK0
        obtain ⟨c, hcl, rfl, v, hK⟩ := hrel
        by_cases hlt : c < 256
        · have hTc := u3 c hlt
          have hss := seen_succ ks c
          cases hb : ks.contains c.toUInt8 with
          | false =>
            rw [hb] at hTc hss
            have hidx := run_index51 T c false hlt hTc
            clear hTc
            go_wp2_with fail
            go_roundw
            case rel => exact ⟨c + 1, by omega, by go_num, v, by rw [hss]; simpa using hK⟩
            case measure => simp [intOf]; omega
          | true =>
            rw [hb] at hTc hss
            have hidx := run_index51 T c true hlt hTc
            clear hTc
            obtain ⟨i0, hi, hz0, hz1, hz2⟩ := info_parts infoByte
            obtain ⟨rm, pm, blk, own, below, lt⟩ := hK
            have hsl := seen_len ks c
            have a2 : wo.cell? ⟨A, 2, none⟩ = some v := by rw [Lib.cell_of_heap blk]; rfl
            have hAlt := (Array.getElem?_eq_some_iff.1 blk).1
            go_wp2_with (at_builtin; refine wpList_append_own _ rfl (.tmp 65) (.tmp 68) 22 rfl (U + 1) 5 i0 (.int .u8 0) 1 1 Tryz.underlying22 hi hz0 hz1 hz2 rfl (by decide) v _ _ rfl (own.alloc _) ⟨wo.heap.size, 0, none⟩ 1 1 [.int .u8 c] rfl rfl (cell_one_new _ _ _) (ints_oneCell .u8 [(c : Int)]) (by unfold maxLen; omega) (by omega) (by simp; omega) ?_)
            intro v' w2 hown' hgrow _
            obtain ⟨b', cp', rfl⟩ : ∃ b' cp', v' = .slice (some ⟨b', 0, none⟩) ((seen ks c).length + 1) cp' := by
              rcases hown'.2 with ⟨_, h0⟩ | ⟨g, cap, cur, hv, _⟩
              · omega
              · exact ⟨g, cap, hv⟩
            have hgrow2 := (World.grownBy_alloc wo (.cells #[.int .u8 c] 5) v.ownBlock).trans hgrow
            have hvU : ∀ k, v.ownBlock = some k → U + 1 ≤ k := fun k hk => (own.lt k hk).1
            have hne : ∀ k, k ≤ U → some k ≠ v.ownBlock := fun k hk e => by have := hvU k e.symm; omega
            have hbA : w2.heap[A]? = some (.cells #[.map (some N), .map (some Q), v] 50 (0, 0)) := (hgrow2.block A hAlt (hne A (by omega))).trans blk
            have f2 : w2.frozen? ⟨A, 2, none⟩ = false := Lib.frozen_of_heap hbA 2
            have d2 : w2.cell? ⟨A, 2, none⟩ = some v := by rw [Lib.cell_of_heap hbA]; rfl
            have hK' : K3 w N Q A U PM (seen ks (c + 1)) (.slice (some ⟨b', 0, none⟩) ((seen ks c).length + 1) cp') (w2.setCell ⟨A, 2, none⟩ (.slice (some ⟨b', 0, none⟩) ((seen ks c).length + 1) cp')) := by
              have hb' := (hown'.lt b' rfl).1
              have hset : ∀ k, k ≠ A → (w2.setCell ⟨A, 2, none⟩ (.slice (some ⟨b', 0, none⟩) ((seen ks c).length + 1) cp')).heap[k]? = w2.heap[k]? := fun k hk => Below.heap_setCell _ _ _ _ hk
              refine ⟨(rm.grown hgrow2 (hne N (by omega))).of_block (hset _ (by omega)), (pm.grown hgrow2 (hne Q (by omega))).of_block (hset _ (by omega)), ?_, ?_, (below.grown hgrow2 (by have := below.size; omega) (fun k hk => by have := hvU k hk; omega)).setCell (p := ⟨A, 2, none⟩) (by show _ ≤ A; omega) _, ?_⟩
              · simp [World.setCell, Array.getElem?_modify, hbA]
              · refine ownsRow_setCell_other ?_ (by simp [Value.ownBlock]; omega) _
                rw [hss]
                have e : (c.toUInt8.toNat : Int) = c := by simp [Nat.toUInt8]; omega
                have e2 : (c : Int) % 256 = c := by omega
                simpa [byteV, e, e2] using hown'
              · have := hgrow2.size
                simp [World.setCell]
                omega
            clear hown' hgrow hgrow2 hbA rm pm blk own below
            go_wp2_with fail
            go_roundw
            case rel => exact ⟨c + 1, by omega, by go_num, _, hK'⟩
            case measure => simp [intOf]; omega
        · obtain rfl : c = 256 := by omega
          go_wp2_with fail
          go_ret2
          rw [← hks, seen_all] at hK
          obtain ⟨rm, pm, blk, own, below, lt⟩ := hK
          obtain ⟨bk, cp, rfl⟩ : ∃ bk cp, v = .slice (some ⟨bk, 0, none⟩) Kp.akeys.length cp := by
            rcases own.2 with ⟨_, h0⟩ | ⟨g, cap, cur, hv, _⟩
            · exact absurd h0 (by decide +kernel)
            · exact ⟨g, cap, hv⟩
          have hbk := (own.lt bk rfl).2
          refine ⟨A, N, Q, bk, cp, PM, rfl, ⟨⟨by omega, by omega, by omega, hbk⟩, blk, rm, pm, fun s => (p2 s).trans (prefs_part s), fun i hi => ?_⟩, below⟩
          rw [own.cellAt i (by omega)]
          simp [byteV, hi]
end Go.Proofs.YtmnbhjijphlanaaGreatDoor
