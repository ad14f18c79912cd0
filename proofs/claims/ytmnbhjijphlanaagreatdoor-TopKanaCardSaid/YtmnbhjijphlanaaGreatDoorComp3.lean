/-
  slices.Grow and slices.Concat at items.
-/
import Derived.Test.YtmnbhjijphlanaaGreatDoorComp2
import Derived.Laws.AppendOwnNone
namespace Go.Proofs.YtmnbhjijphlanaaGreatDoor
open Go.RowKit Mp Go.Shelf Go.Lib

theorem zeroCells_size (z : Array Value) (n : Nat) : (Builtin.zeroCells z n).size = n * z.size := by simp [Builtin.zeroCells]
theorem grow_any (n : Nat) (w : World) (hn : n ≤ 100000) :
    Calls Tryz.prog 77 #[.slice none 0 0, .int .i64 n] w fun e w' => ∃ v, e = .returned v ∧ w'.ownsRow w.heap.size 90 2 v 0 [] ∧ Below w.heap.size w w' := by
  by_cases h0 : n = 0
  · subst h0
    have h := Any8.slices_Grow_room Tryz.growI none 0 0 0 w (Nat.le_refl _) (by omega) (by omega) (by omega)
    refine Calls.mono h ?_
    rintro e w' ⟨rfl, rfl⟩
    exact ⟨_, rfl, World.ownsRow_nil _ _ _ _, Below.refl _ _⟩
  · obtain ⟨i0, hi, hz0, hz1, hz2⟩ := info_parts info90
    have h := Any8.slices_Grow_grow Tryz.growI i0 _ hi hz0 (by omega) none 0 0 n [] w (Nat.le_refl _) (by omega) (by rw [hz2]; omega) (by omega) (by simp) (fun _ => rfl) (fun a ha => by cases ha)
    refine Calls.mono h ?_
    rintro e w' ⟨rfl, rfl⟩
    have hge := grownCap_ge w (0 + n) 0 90
    have hmx := grownCap_le_maxLen w (0 + n) 0 90 (by unfold maxLen; omega)
    refine ⟨_, rfl, ⟨rfl, .inr ⟨w.heap.size, grownCap w (0 + n) 0 90, _, rfl, Nat.le_refl _, alloc_new w.drew _, Nat.zero_le _, hmx, ?_, by simp⟩⟩, ((Below.refl _ _).drew).alloc (Nat.le_refl _) _⟩
    change (([] : List Value).toArray ++ Builtin.zeroCells (Value.agg #[.string ⟨#[]⟩, .string ⟨#[]⟩]).cells (0 + n - 0) ++ Builtin.zeroCells (Value.agg #[.string ⟨#[]⟩, .string ⟨#[]⟩]).cells (grownCap w (0 + n) 0 90 - (0 + n))).size = _
    rw [Array.size_append, Array.size_append, zeroCells_size, zeroCells_size]
    have hc : (Value.agg #[.string ⟨#[]⟩, .string ⟨#[]⟩]).cells.size = 2 := rfl
    rw [hc]
    simp only [Nat.zero_add] at hge hmx ⊢
    simp
    omega

/-- a slice that is read: where its cells lie -/
structure Src (w : World) (ao : Option Addr) (n c : Nat) (xs : List Value) : Prop where
  len : xs.length = n * 2
  nil : ao = none → n = 0 ∧ c = 0
  cells : ∀ ad, ao = some ad → ∀ j u, xs[j]? = some u → w.cell? (ad.add j) = some u
  one : ∀ u ∈ xs, u.oneCell' = true
theorem cell_lt {w : World} {p : Addr} {v : Value} (h : w.cell? p = some v) : p.block < w.heap.size := by
  rcases Nat.lt_or_ge p.block w.heap.size with hlt | hge
  · exact hlt
  · simp [World.cell?, Array.getElem?_eq_none hge] at h
theorem Src.later {w w' : World} {ao : Option Addr} {n c : Nat} {xs : List Value} (h : Src w ao n c xs) (hb : Below w.heap.size w w') : Src w' ao n c xs :=
  ⟨h.len, h.nil, fun ad ha j u hj => by have h1 := h.cells ad ha j u hj; rw [hb.cell (cell_lt h1)]; exact h1, h.one⟩
theorem cellsI_one (l : List It) : ∀ u ∈ cellsI l, u.oneCell' = true := by
  intro u hu
  obtain ⟨x, _, hx⟩ := List.mem_flatMap.1 hu
  exact two_strs _ _ u hx
theorem Src.of_row {w : World} {B : Nat} {ao : Option Addr} {c : Nat} {l : List It} (h : w.ownsRow B 90 2 (.slice ao l.length c) l.length (cellsI l)) : Src w ao l.length c (cellsI l) := by
  refine ⟨cellsI_length l, ?_, ?_, cellsI_one l⟩
  · rintro rfl
    rcases h.2 with ⟨hv, h0⟩ | ⟨g, cap, cur, hv, _⟩
    · simp only [Value.slice.injEq] at hv; exact ⟨h0, hv.2.2⟩
    · simp at hv
  · rintro ad rfl j u hj
    rcases h.2 with ⟨hv, h0⟩ | ⟨g, cap, cur, hv, _⟩
    · simp at hv
    · simp only [Value.slice.injEq, Option.some.injEq] at hv
      obtain ⟨rfl, -, rfl⟩ := hv
      have hlt := (List.getElem?_eq_some_iff.1 hj).1
      rw [h.1] at hlt
      have := h.cellAt j hlt
      have e : (⟨g, 0, none⟩ : Addr).add j = ⟨g, j, none⟩ := by simp [Addr.add]; intro e; exact e.symm
      rw [e, this]
      exact hj
theorem Src.empty (w : World) (ao : Option Addr) (c : Nat) (h : ao = none → c = 0) : Src w ao 0 c [] := ⟨rfl, fun e => ⟨rfl, h e⟩, fun _ _ j u hj => by simp at hj, by simp⟩

theorem wpList_append_src {ops : Array Oper} {rest : List Oper} {o : Oper} {a : Act} {Q : Exit → Act → World → Prop} {w : World} (hgd : o.guard = none) (s x : Operand)
    (ho : o.op = .call { callee := .builtin .append, args := #[s, x], argTypes := #[38, 38] }) (base : Nat) (v : Value) (n : Nat) (xs : List Value) (hs : a.eval s = v) (hown : w.ownsRow base 90 2 v n xs)
    (ao : Option Addr) (m c : Nat) (news : List Value) (hx : a.eval x = .slice ao m c) (hsrc : Src w ao m c news) (hb : n + m ≤ 100000) (hbase : base ≤ w.heap.size)
    (h : ∀ v' w', w'.ownsRow base 90 2 v' (n + m) (xs ++ news) → w.grownBy w' v.ownBlock → wpList Tryz.prog ops Q rest (a.put o.dst v') w') : wpList Tryz.prog ops Q (o :: rest) a w := by
  obtain ⟨i0, hi, hz0, hz1, hz2⟩ := info_parts info90
  cases ao with
  | none =>
    obtain ⟨rfl, rfl⟩ := hsrc.nil rfl
    have hn : news = [] := List.eq_nil_of_length_eq_zero (by simpa using hsrc.len)
    subst hn
    refine wpList_append_own_none hgd s x 38 ho base 90 i0 2 Tryz.underlying38 hi v n xs hs hown hx (h v w (by simpa using hown) ?_)
    exact ⟨rfl, rfl, rfl, Nat.le_refl _, fun _ _ _ => rfl⟩
  | some ad =>
    refine wpList_append_own _ hgd s x 38 ho base 90 i0 (.agg #[.string ⟨#[]⟩, .string ⟨#[]⟩]) 2 32 Tryz.underlying38 hi hz0 hz1 hz2 rfl (by decide) v n xs hs hown ad m c news hx hsrc.len (fun j u hj => hsrc.cells ad rfl j u hj) hsrc.one (by unfold maxLen; omega) (by omega) hbase ?_
    intro v' w' h1 h2 _
    exact h v' w' h1 h2

def cum (n : Nat → Nat) : Nat → Nat
  | 0 => 0
  | k + 1 => cum n k + n k
def catX (xs : Nat → List Value) : Nat → List Value
  | 0 => []
  | k + 1 => catX xs k ++ xs k
theorem cum_le (n : Nat → Nat) (k : Nat) (h : k ≤ 3) : cum n k ≤ cum n 3 := by
  match k, h with
  | 0, _ => exact Nat.zero_le _
  | 1, _ => simp only [cum]; omega
  | 2, _ => simp only [cum]; omega
  | 3, _ => exact Nat.le_refl _

set_option maxRecDepth 100000 in
set_option maxHeartbeats 2000000 in
theorem concat_any (b : Nat) (ao : Nat → Option Addr) (n c : Nat → Nat) (xs : Nat → List Value) (w : World) (hc : ∀ k, k < 3 → w.cell? ⟨b, k, none⟩ = some (.slice (ao k) (n k) (c k))) (hs : ∀ k, k < 3 → Src w (ao k) (n k) (c k) (xs k)) (hn : cum n 3 ≤ 10000) :
    Calls Tryz.prog 53 #[.slice (some ⟨b, 0, none⟩) 3 3] w fun e w' => ∃ v, e = .returned v ∧ w'.ownsRow w.heap.size 90 2 v (cum n 3) (catX xs 3) ∧ Below w.heap.size w w' := by
  have hblt : b < w.heap.size := cell_lt (hc 0 (by omega))
  have HD := Lib.hid hc
  have HS := Lib.hid hs
  clear hc hs
  go_enter Tryz.func53, Tryz.ntmps53
  go_wp2_with fail
  go_loopw [3, 11] (fun s i wr => ∃ k : Nat, k ≤ 3 ∧ i = .int .i64 k ∧ s = .int .i64 (cum n k) ∧ wr = w) (fun _ i _ => 3 - (intOf i).toNat)
  case atStart => exact ⟨0, by omega, rfl, rfl, rfl⟩
  case round =>
    obtain ⟨k, hk, rfl, rfl, hw⟩ := hrel
    obtain rfl : w = wr := hw.symm
    by_cases hlt : k < 3
    · have d0 := HD.out k hlt
      have hcl := cum_le n (k + 1) (by omega)
      have hcs : cum n (k + 1) = cum n k + n k := rfl
      have HC := Lib.hid hcs
      have hsum : cum n k + n k ≤ 10000 := by omega
      generalize cum n k = S at hsum HC ⊢
      generalize n k = m at d0 hsum HC
      clear hcs hcl
      go_wp2_with fail
      go_roundw
      case rel => exact ⟨k + 1, by omega, by go_num, by rw [HC.out]; go_num, trivial⟩
      case measure => simp [intOf]; omega
    · have hk3 : k = 3 := by omega
      go_wp2_with fail
      clear hlt hk hk3 hw
      refine (grow_any (cum n 3) w (by omega)).mono ?_
      rintro e w1 ⟨v1, rfl, hown1, hb1⟩
      go_wp2_with fail
      go_loopw [6, 27] (fun v i wi => ∃ k : Nat, k ≤ 3 ∧ i = .int .i64 k ∧ wi.ownsRow w.heap.size 90 2 v (cum n k) (catX xs k) ∧ Below w.heap.size w wi) (fun _ i _ => 3 - (intOf i).toNat)
      case atStart => exact ⟨0, by omega, rfl, hown1, hb1⟩
      case round =>
        obtain ⟨wo, rfl⟩ : ∃ wo : World, wo = wr := ⟨_, rfl⟩
        obtain ⟨k, hk, rfl, hown, hb⟩ := hrel
        by_cases hlt : k < 3
        · have d0 := HD.out k hlt
          have hd : wo.cell? ⟨b, k, none⟩ = some (.slice (ao k) (n k) (c k)) := (hb.cell (p := ⟨b, k, none⟩) hblt).trans d0
          have hsrc := (HS.out k hlt).later hb
          have hcl := cum_le n (k + 1) (by omega)
          have hsum : cum n k + n k ≤ 10000 := by show cum n (k + 1) ≤ 10000; omega
          have hcs : cum n (k + 1) = cum n k + n k := rfl
          have hxs : catX xs (k + 1) = catX xs k ++ xs k := rfl
          have HC := Lib.hid hcs
          have HX := Lib.hid hxs
          have hbs := hb.size
          generalize cum n k = S at hown HC hsum
          generalize catX xs k = X at hown HX
          generalize n k = m at hd hsum HC hsrc
          generalize ao k = ak at hd hsrc
          generalize c k = ck at hd hsrc
          generalize xs k = xk at hsrc HX
          clear hcs hxs hcl d0
          go_wp2_with (at_builtin; refine wpList_append_src rfl (.tmp 31) (.tmp 32) rfl w.heap.size _ S X rfl hown ak m ck xk rfl hsrc (by omega) hbs ?_)
          intro v' w2 hown' hgrow
          have hb2 : Below w.heap.size w w2 := hb.grown hgrow hbs (fun j hj => (hown.lt j hj).1)
          clear hown hgrow hb hsrc hd
          go_wp2_with fail
          go_roundw
          case rel => exact ⟨k + 1, by omega, by go_num, by rw [HC.out, HX.out]; exact hown', hb2⟩
          case measure => simp [intOf]; omega
        · obtain rfl : k = 3 := by omega
          go_wp2_with fail
          go_ret
          exact ⟨_, rfl, hown, hb⟩
end Go.Proofs.YtmnbhjijphlanaaGreatDoor
