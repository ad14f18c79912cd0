/-
  What holds in memory while Type searches: the round's map and list; boxes; lemmas outside the walk.
-/
import Derived.Test.YtmnbhjijphlanaaGreatDoorChoices
import Derived.Maps.AppendAt
import Derived.WalkSmall
namespace Go.Proofs.YtmnbhjijphlanaaGreatDoor
open Go.RowKit Mp

def cellsOf (X : List Kp.St) : List Value := X.flatMap (fun x => [.int .i64 x.1, .string ⟨x.2.toArray⟩])
theorem cellsOf_length (X : List Kp.St) : (cellsOf X).length = X.length * 2 := by
  induction X with
  | nil => rfl
  | cons x X ih => simp only [cellsOf, List.flatMap_cons, List.length_append, List.length_cons, List.length_nil] at ih ⊢; omega
theorem cellsOf_snoc (X : List Kp.St) (y : Kp.St) : cellsOf (X ++ [y]) = cellsOf X ++ [.int .i64 y.1, .string ⟨y.2.toArray⟩] := by simp [cellsOf]
theorem cellsOf_at (X : List Kp.St) (j : Nat) (h : j < X.length) : (cellsOf X)[j * 2]? = some (.int .i64 (X[j]).1) ∧ (cellsOf X)[j * 2 + 1]? = some (.string ⟨(X[j]).2.toArray⟩) := by
  induction X generalizing j with
  | nil => cases h
  | cons x X ih =>
    cases j with
    | zero => exact ⟨rfl, rfl⟩
    | succ j =>
      have := ih j (by simpa using h)
      simp only [cellsOf, List.flatMap_cons, List.cons_append, List.nil_append, List.getElem_cons_succ] at this ⊢
      rw [show (j + 1) * 2 = j * 2 + 1 + 1 by omega, show j * 2 + 1 + 1 + 1 = (j * 2 + 1) + 1 + 1 by omega]
      simpa only [List.getElem?_cons_succ] using this

/-- a box that holds a state -/
def Bx (w : World) (b : Nat) (x : Kp.St) : Prop := w.heap[b]? = some (.cells #[.int .i64 x.1, .string ⟨x.2.toArray⟩] 63 (0, 0))
theorem Bx.below {w w' : World} {b B : Nat} {x : Kp.St} (h : Bx w b x) (hb : Below B w w') (hB : b < B) : Bx w' b x := (hb.block b hB).trans h
theorem Bx.lt {w : World} {b : Nat} {x : Kp.St} (h : Bx w b x) : b < w.heap.size := (Array.getElem?_eq_some_iff.1 h).1
theorem Bx.grown {w w' : World} {b : Nat} {x : Kp.St} {row : Option Nat} (h : Bx w b x) (hg : w.grownBy w' row) (hne : some b ≠ row) : Bx w' b x := (hg.block b h.lt hne).trans h
theorem Bx.cell {w : World} {b : Nat} {x : Kp.St} (h : Bx w b x) : w.cell? ⟨b, 0, none⟩ = some (.int .i64 x.1) ∧ w.cell? ⟨b, 1, none⟩ = some (.string ⟨x.2.toArray⟩) := by
  unfold Bx at h
  simp [World.cell?, h]

/-- what the search's round holds: its map in block N0, its list in rows from N0 + 1 on; what lay below N0 stands -/
structure In2 (w0 : World) (N0 : Nat) (wr : World) (v : Value) (R : Kp.Mp) (X : List Kp.St) : Prop where
  below : Below N0 w0 wr
  rmap : MapIs wr N0 (ent stV strV R)
  row : wr.ownsRow (N0 + 1) 63 2 v X.length (cellsOf X)

theorem In2.lt {w0 wr : World} {N0 : Nat} {v : Value} {R : Kp.Mp} {X : List Kp.St} (h : In2 w0 N0 wr v R X) : N0 < wr.heap.size := h.rmap.lt
theorem In2.later {w0 wr w' : World} {N0 : Nat} {v : Value} {R : Kp.Mp} {X : List Kp.St} (h : In2 w0 N0 wr v R X) (hb : Below wr.heap.size wr w') : In2 w0 N0 w' v R X :=
  ⟨h.below.trans (hb.mono (Nat.le_of_lt h.lt)), h.rmap.below hb h.lt, h.row.kept (grown_of_below hb) (by cases v.ownBlock <;> simp)⟩
theorem In2.update {w0 wr w' : World} {N0 : Nat} {v : Value} {R R' : Kp.Mp} {X : List Kp.St} (h : In2 w0 N0 wr v R X) (hm : MapIs w' N0 (ent stV strV R')) (hg : wr.grownBy w' (some N0)) : In2 w0 N0 w' v R' X :=
  ⟨h.below.grown hg (Nat.le_of_lt h.lt) (fun k hk => by cases hk; exact Nat.le_refl _), hm, h.row.kept hg (by
    cases ho : v.ownBlock with
    | none => exact .inl rfl
    | some g => right; rintro ⟨⟩; have := (h.row.lt _ ho).1; omega)⟩
theorem In2.append {w0 wr w' : World} {N0 : Nat} {v v' : Value} {R : Kp.Mp} {X : List Kp.St} {y : Kp.St} (h : In2 w0 N0 wr v R X) (hown : w'.ownsRow (N0 + 1) 63 2 v' (X.length + 1) (cellsOf X ++ [.int .i64 y.1, .string ⟨y.2.toArray⟩])) (hg : wr.grownBy w' v.ownBlock) : In2 w0 N0 w' v' R (X ++ [y]) :=
  ⟨h.below.grown hg (Nat.le_of_lt h.lt) (fun k hk => by have := (h.row.lt k hk).1; omega), h.rmap.grown hg (fun e => by have := (h.row.lt N0 e.symm).1; omega), by rw [cellsOf_snoc]; simpa using hown⟩

theorem row_mono {w : World} {B B' : Nat} {v : Value} {n : Nat} {xs : List Value} (h : w.ownsRow B 63 2 v n xs) (hB : B' ≤ B) : w.ownsRow B' 63 2 v n xs :=
  ⟨h.1, h.2.imp id (fun ⟨g, cap, cur, h1, h2, h3⟩ => ⟨g, cap, cur, h1, Nat.le_trans hB h2, h3⟩)⟩
theorem row_shape {w : World} {B : Nat} {v : Value} {n : Nat} {xs : List Value} (h : w.ownsRow B 63 2 v n xs) : ∃ ao c, v = .slice ao n c := by
  rcases h.2 with ⟨rfl, rfl⟩ | ⟨g, cap, cur, rfl, _⟩
  · exact ⟨_, _, rfl⟩
  · exact ⟨_, _, rfl⟩
/-- a list that is not empty lies in a row: its cells -/
theorem row_at {w : World} {B : Nat} {v : Value} {L : List Kp.St} (h : w.ownsRow B 63 2 v L.length (cellsOf L)) (h0 : 0 < L.length) :
    ∃ g c, v = .slice (some ⟨g, 0, none⟩) L.length c ∧ B ≤ g ∧ g < w.heap.size ∧ ∀ j, (hj : j < L.length) → w.cell? ⟨g, j * 2, none⟩ = some (.int .i64 (L[j]).1) ∧ w.cell? ⟨g, j * 2 + 1, none⟩ = some (.string ⟨(L[j]).2.toArray⟩) := by
  rcases h.2 with ⟨_, h1⟩ | ⟨g, cap, cur, rfl, h1, h2, _⟩
  · omega
  · refine ⟨g, cap, rfl, h1, (Array.getElem?_eq_some_iff.1 h2).1, fun j hj => ?_⟩
    obtain ⟨e1, e2⟩ := cellsOf_at L j hj
    have hc := h.cellAt
    exact ⟨(hc (j * 2) (by omega)).trans e1, (hc (j * 2 + 1) (by omega)).trans e2⟩

/-- what a round has seen to: all keys at the first j states, and the first i keys at the next one -/
def doneP (L : List Kp.St) (j i : Nat) (x : Kp.St) (c : UInt8) : Prop := (x ∈ L.take j ∧ c ∈ Kp.akeys) ∨ (∃ h : j < L.length, x = L[j] ∧ c ∈ Kp.akeys.take i)
theorem mid_weaken {s A : Kp.Bs} {d : Nat} {M R : Kp.Mp} {X : List Kp.St} {p q : Kp.St → UInt8 → Prop} (h : Kp.Mid s A d M R X p) (hpq : ∀ x c, q x c → p x c) : Kp.Mid s A d M R X q :=
  ⟨h.nodup, h.good, h.xs, h.xnodup, fun x c y hq ha => h.all x c y (hpq x c hq) ha⟩
theorem doneP_zero {L : List Kp.St} {x : Kp.St} {c : UInt8} (h : doneP L 0 0 x c) : False := by
  rcases h with ⟨h, _⟩ | ⟨_, _, h⟩ <;> simp at h
theorem doneP_key {L : List Kp.St} {j i : Nat} (hj : j < L.length) (hi : i < Kp.akeys.length) {x : Kp.St} {c : UInt8} (h : doneP L j (i + 1) x c) : doneP L j i x c ∨ (x = L[j] ∧ c = Kp.akeys[i]) := by
  rcases h with h | ⟨_, h1, h2⟩
  · exact .inl (.inl h)
  · rw [List.take_succ_eq_append_getElem hi, List.mem_append, List.mem_singleton] at h2
    rcases h2 with h2 | h2
    · exact .inl (.inr ⟨hj, h1, h2⟩)
    · exact .inr ⟨h1, h2⟩
theorem doneP_state {L : List Kp.St} {j : Nat} (hj : j < L.length) {x : Kp.St} {c : UInt8} (h : doneP L (j + 1) 0 x c) : doneP L j Kp.akeys.length x c := by
  rcases h with ⟨h1, h2⟩ | ⟨_, _, h⟩
  · rw [List.take_succ_eq_append_getElem hj, List.mem_append, List.mem_singleton] at h1
    rcases h1 with h1 | h1
    · exact .inl ⟨h1, h2⟩
    · exact .inr ⟨hj, h1, by rw [List.take_of_length_le (Nat.le_refl _)]; exact h2⟩
  · simp at h
theorem doneP_all {L : List Kp.St} {x : Kp.St} {c : UInt8} (hx : x ∈ L) (hc : c ∈ Kp.akeys) : doneP L L.length 0 x c := .inl ⟨by rw [List.take_of_length_le (Nat.le_refl _)]; exact hx, hc⟩
theorem in2_start (wr : World) : In2 wr wr.heap.size (wr.alloc (.map #[] 0)) (.slice none 0 0) [] [] :=
  ⟨(Below.refl _ _).alloc (Nat.le_refl _) _, mapIs_made wr, World.ownsRow_nil _ _ _ _⟩
theorem rest_keys (s : ByteArray) (a : Nat) (hk : ∀ i, (h : i < s.size) → Kp.isKey s[i] = false) (i : Nat) (h : i < (s.extract a s.size).size) : Kp.isKey (s.extract a s.size)[i] = false := by
  have h' : a + i < s.size := by simp [ByteArray.size_extract] at h; omega
  have := hk (a + i) h'
  rwa [ByteArray.getElem_extract]

theorem below_after {wo wi wj : World} (h1 : Below wo.heap.size wo wi) (h2 : Below wi.heap.size wi wj) : Below wo.heap.size wo wj := h1.trans (h2.mono h1.size)
theorem map_after {wo wi wj : World} {b : Nat} {l : List (Value × Value)} (hM : MapIs wo b l) (h1 : Below wo.heap.size wo wi) (h2 : Below wi.heap.size wi wj) (ob : Obj) : MapIs (wj.alloc ob) b l :=
  hM.below ((below_after h1 h2).alloc (below_after h1 h2).size ob) hM.lt
theorem inv_lsize {s A W : Kp.Bs} {d : Nat} {M : Kp.Mp} {L : List Kp.St} (h : Kp.Inv s A W d M L) : L.length ≤ (s.length + 1) * 400 := by
  refine Nat.le_trans (Kp.nodup_len h.lnodup fun x hx => ?_) (Kp.states_len s.length)
  obtain ⟨k, hk⟩ := Option.isSome_iff_exists.1 (h.last x hx)
  exact (h.good x k hk).mem
theorem encode_ascii : ∀ k : Fin 128, Utf8.encode (k.val : Int) = ⟨#[k.val.toUInt8]⟩ := by decide +kernel
theorem enc_key (c : UInt8) (hc : Kp.isKey c = true) : Utf8.encode (wrap32 c.toNat) = ⟨#[c]⟩ := by
  have h : c.toNat < 128 := by simp [Kp.isKey] at hc; omega
  have e : wrap32 (c.toNat : Int) = c.toNat := by unfold wrap32; omega
  have h := encode_ascii ⟨c.toNat, h⟩
  rw [e, h]
  simp
theorem add_key (W : World) (k : Kp.Bs) (c : UInt8) (h : k.length ≤ 100000) : (Op.stringOp .add ⟨k.toArray⟩ ⟨#[c]⟩).run Tryz.prog W = .ok (.string ⟨(k ++ [c]).toArray⟩) W := by
  have := run_string_add_sum (P := Tryz.prog) W ⟨k.toArray⟩ ⟨[c].toArray⟩ (by simp [ByteArray.size]; omega)
  rwa [ByteArray.mk_append_mk] at this
theorem box_after {wi wj : World} {b : Nat} {x : Kp.St} (h : Bx wi b x) (hb : Below wi.heap.size wi wj) : (∀ ob, (wj.alloc ob).cell? ⟨b, 0, none⟩ = some (.int .i64 x.1)) ∧ (∀ ob, (wj.alloc ob).cell? ⟨b, 1, none⟩ = some (.string ⟨x.2.toArray⟩)) := by
  have h1 : ∀ ob, Bx (wj.alloc ob) b x := fun ob => h.below (hb.alloc hb.size ob) h.lt
  exact ⟨fun ob => (h1 ob).cell.1, fun ob => (h1 ob).cell.2⟩
theorem row_after {w0 wi wj : World} {N0 : Nat} {v : Value} {R : Kp.Mp} {X : List Kp.St} (h : In2 w0 N0 wi v R X) (hb : Below wi.heap.size wi wj) (ob1 ob2 : Obj) : In2 w0 N0 ((wj.alloc ob1).alloc ob2) v R X :=
  h.later ((hb.alloc hb.size ob1).alloc (by have := hb.size; simp; omega) ob2)
theorem two_new (wj : World) (ob : Obj) (a b : Value) : ∀ j u, [a, b][j]? = some u → ((wj.alloc ob).alloc (.cells #[a, b] 63)).cell? ((⟨wj.heap.size + 1, 0, none⟩ : Addr).add j) = some u := by
  simpa using cell_two_new (wj.alloc ob) a b 63
theorem app_done {wo wi wj w5 : World} {N0 XB n : Nat} {v v5 : Value} {R : Kp.Mp} {X : List Kp.St} {x : Kp.St} {y1 : Int} {q : Kp.Bs} (hy : y1 = n) (hIn : In2 wo N0 wi v R X) (hX : Bx wi XB x) (hv : v.ownBlock ≠ some XB) (hb : Below wi.heap.size wi wj)
    (hown : w5.ownsRow (N0 + 1) 63 2 v5 (X.length + 1) (cellsOf X ++ [.int .i64 y1, .string ⟨q.toArray⟩])) (hgrow : ((wj.alloc (.cells #[.int .i64 y1, .string ⟨q.toArray⟩] 63)).alloc (.cells #[.int .i64 y1, .string ⟨q.toArray⟩] 63)).grownBy w5 v.ownBlock)
    (hloc : v5.ownBlock = v.ownBlock ∨ v5.ownBlock = some ((wj.alloc (.cells #[.int .i64 y1, .string ⟨q.toArray⟩] 63)).alloc (.cells #[.int .i64 y1, .string ⟨q.toArray⟩] 63)).heap.size) :
    In2 wo N0 w5 v5 R (X ++ [(n, q)]) ∧ Bx w5 wj.heap.size (n, q) ∧ Bx w5 XB x ∧ v5.ownBlock ≠ some XB := by
  subst hy
  have hs := hb.size
  have hXl := hX.lt
  refine ⟨(row_after hIn hb _ _).append (y := (n, q)) hown hgrow, ?_, ?_, ?_⟩
  · have h0 : Bx (wj.alloc (.cells #[.int .i64 n, .string ⟨q.toArray⟩] 63)) wj.heap.size (n, q) := alloc_new wj _
    refine (h0.below ((Below.refl _ _).alloc (Nat.le_refl _) _) h0.lt).grown hgrow (fun e => ?_)
    have := (hIn.row.lt _ e.symm).2
    omega
  · exact (hX.below ((hb.alloc hs _).alloc (by simp; omega) _) hXl).grown hgrow (fun e => hv e.symm)
  · rcases hloc with h | h
    · rw [h]; exact hv
    · rw [h]; simp; omega
theorem two_one (a : Int) (s : ByteArray) : ∀ u ∈ [Value.int .i64 a, Value.string s], u.oneCell' = true := by
  intro u hu
  rcases List.mem_cons.1 hu with rfl | hu
  · rfl
  · rw [List.mem_singleton.1 hu]; rfl
theorem info63 : (Tryz.prog.info? 63).map (fun i => (i.zero, i.size, i.bytes)) = some (some (.agg #[.int .i64 0, .string ⟨#[]⟩]), 2, 24) := by kernel_rfl
theorem rules_out : ∀ r ∈ Kp.rules, r.out.length ≤ 12 := by decide +kernel
theorem resolve_out (s : Kp.Bs) : (Kp.resolve s).1.length ≤ 12 := by
  have : ∀ n, (Kp.resolveN n s).1.length ≤ 12 := by
    intro n
    induction n with
    | zero => simp [Kp.resolveN]; omega
    | succ n ih =>
      unfold Kp.resolveN
      split
      · rename_i r hr; exact rules_out r (Kp.find_some hr).1
      · exact ih
  exact this _
theorem feeds_len {p ks o q : Kp.Bs} (h : Kp.Feeds p ks o q) : o.length ≤ 12 * (p.length + ks.length) := by
  induction h with
  | nil p => simp
  | push hp _ ih => simp at ih ⊢; omega
  | @res p k ks o q hp _ ih =>
    have h1 := resolve_out (p ++ [k])
    have h2 := Kp.resolve_lt (p ++ [k]) (by simp)
    simp at ih h2 ⊢; omega
theorem akeys_key : ∀ c ∈ Kp.akeys, Kp.isKey c = true := by decide +kernel

/-- copying what was reached anew: what the map holds while some entries are still to come -/
structure Cp (M R M' : Kp.Mp) (left : Kp.Mp) : Prop where
  nodup : (M'.map (·.1)).Nodup
  sub : ∀ e ∈ left, Al.get R e.1 = some e.2
  lnodup : (left.map (·.1)).Nodup
  is : ∀ y, Al.get M' y = match Al.get R y with | some k => (if y ∈ left.map (·.1) then Al.get M y else some k) | none => Al.get M y
theorem Cp.start {M R : Kp.Mp} (hM : (M.map (·.1)).Nodup) (hR : (R.map (·.1)).Nodup) : Cp M R M R := by
  refine ⟨hM, fun e he => Al.get_of_mem hR he, hR, fun y => ?_⟩
  cases h : Al.get R y with
  | none => rfl
  | some k => exact (if_pos ((Al.get_isSome_iff R y).1 (by rw [h]; rfl))).symm
theorem Cp.step {M R M' l1 l2 : Kp.Mp} {y : Kp.St} {k : Kp.Bs} (h : Cp M R M' (l1 ++ (y, k) :: l2)) : Cp M R (Al.put M' y k) (l1 ++ l2) := by
  have hs := h.sub (y, k) (by simp)
  have hn := h.lnodup
  simp only [List.map_append, List.map_cons, List.nodup_append, List.nodup_cons, List.mem_cons] at hn
  obtain ⟨n1, ⟨n2, n3⟩, n4⟩ := hn
  refine ⟨Al.put_nodup h.nodup _ _, fun e he => h.sub e ?_, ?_, fun z => ?_⟩
  · rcases List.mem_append.1 he with he | he
    · exact List.mem_append_left _ he
    · exact List.mem_append_right _ (List.mem_cons_of_mem _ he)
  · rw [List.map_append, List.nodup_append]
    exact ⟨n1, n3, fun a ha b hb => n4 a ha b (.inr hb)⟩
  · rw [Al.get_put, h.is z]
    by_cases e : y = z
    · subst e
      rw [if_pos rfl, hs]
      have : ¬ y ∈ (l1 ++ l2).map (·.1) := by
        rw [List.map_append, List.mem_append]
        rintro (hy | hy)
        · exact n4 y hy y (.inl rfl) rfl
        · exact n2 hy
      show some k = if y ∈ (l1 ++ l2).map (·.1) then Al.get M y else some k
      rw [if_neg this]
    · rw [if_neg e]
      cases hz : Al.get R z with
      | none => rfl
      | some k' =>
        have : (z ∈ (l1 ++ (y, k) :: l2).map (·.1)) ↔ z ∈ (l1 ++ l2).map (·.1) := by
          simp only [List.map_append, List.map_cons, List.mem_append, List.mem_cons]
          constructor
          · rintro (h | h | h)
            · exact .inl h
            · exact absurd h.symm e
            · exact .inr h
          · rintro (h | h)
            · exact .inl h
            · exact .inr (.inr h)
        simp only [this]
theorem Cp.done {M R M' : Kp.Mp} (h : Cp M R M' []) : ∀ y, Al.get M' y = match Al.get R y with | some k => some k | none => Al.get M y := by
  intro y
  rw [h.is y]
  cases Al.get R y <;> simp
theorem ent_split {l1 l2 : List (Value × Value)} {k v : Value} {left : Kp.Mp} (h : ent stV strV left = l1 ++ (k, v) :: l2) : ∃ m1 y b m2, left = m1 ++ (y, b) :: m2 ∧ k = stV y ∧ v = strV b ∧ l1 ++ l2 = ent stV strV (m1 ++ m2) := by
  unfold ent at h
  obtain ⟨m1, m2', rfl, h1, h2⟩ := List.map_eq_append_iff.1 h
  obtain ⟨⟨y, b⟩, m2, rfl, h3, h4⟩ := List.map_eq_cons_iff.1 h2
  simp only [Prod.mk.injEq] at h3
  exact ⟨m1, y, b, m2, rfl, h3.1.symm, h3.2.symm, by rw [← h1, ← h4]; simp [ent]⟩
end Go.Proofs.YtmnbhjijphlanaaGreatDoor
