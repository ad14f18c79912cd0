/-
  compose: Insert at a key that writes kana.
-/
import Derived.Test.YtmnbhjijphlanaaGreatDoorComp4
namespace Go.Proofs.YtmnbhjijphlanaaGreatDoor
open Go.RowKit Mp Go.Shelf Go.Lib

theorem row_below {w w' : World} {B e z n : Nat} {v : Value} {xs : List Value} (h : w.ownsRow B e z v n xs) (hb : Below w.heap.size w w') : w'.ownsRow B e z v n xs := h.kept (grown_of_below hb) (by cases v.ownBlock <;> simp)
theorem key_range {c : UInt8} (h : Kp.isKey c = true) : 33 ≤ c.toNat ∧ c.toNat ≤ 126 := by simpa [Kp.isKey] using h
theorem trim_sub (s p : List UInt8) : ∀ b ∈ Lib.trimSuffix s p, b ∈ s := by
  intro b hb
  unfold Lib.trimSuffix at hb
  split at hb
  · exact List.mem_of_mem_take hb
  · exact hb
theorem trim_len (s p : List UInt8) : (Lib.trimSuffix s p).length ≤ s.length := by
  unfold Lib.trimSuffix
  split
  · rw [List.length_take]; omega
  · exact Nat.le_refl _

theorem belowC {w X W : World} (h : Below w.heap.size w X) (hb : Below X.heap.size X W) : Below w.heap.size w W := h.trans (hb.mono h.size)
theorem belowA {w X : World} (h : Below w.heap.size w X) (o : Obj) : Below w.heap.size w (X.alloc o) := h.alloc h.size o
theorem belowS {B : Nat} {w X : World} {p : Addr} (h : Below B w X) (hp : B ≤ p.block) (v : Value) : Below B w (X.setCell p v) := h.setCell hp v
/-- the buffer that came in, in a box of its own, and the result's, behind it -/
structure Box2 (w0 : World) (x y : Array Value) (w : World) : Prop where
  below : Below w0.heap.size w0 w
  inn : w.heap[w0.heap.size]? = some (.cells x 40 (0, 0))
  res : w.heap[w0.heap.size + 1]? = some (.cells y 40 (0, 0))
theorem Box2.start (w : World) (x y : Array Value) : Box2 w x y ((w.alloc (.cells x 40)).alloc (.cells y 40)) := by
  refine ⟨((Below.refl _ _).alloc (Nat.le_refl _) _).alloc (by simp) _, ?_, ?_⟩
  · rw [Below.heap_alloc _ _ _ (by simp)]; exact alloc_new w _
  · have h := alloc_new (w.alloc (.cells x 40)) (.cells y 40)
    simpa using h
theorem Box2.lt {w0 w : World} {x y : Array Value} (h : Box2 w0 x y w) : w0.heap.size + 1 < w.heap.size := (Array.getElem?_eq_some_iff.1 h.res).1
theorem Box2.later {w0 w w' : World} {x y : Array Value} (h : Box2 w0 x y w) (hb : Below w.heap.size w w') : Box2 w0 x y w' := by
  have hlt := h.lt
  exact ⟨h.below.trans (hb.mono (by omega)), (hb.block _ (by omega)).trans h.inn, (hb.block _ hlt).trans h.res⟩
theorem Box2.cell {w0 w : World} {x y : Array Value} (h : Box2 w0 x y w) (j : Nat) : w.cell? ⟨w0.heap.size, j, none⟩ = x[j]? ∧ w.cell? ⟨w0.heap.size + 1, j, none⟩ = y[j]? ∧ w.frozen? ⟨w0.heap.size, j, none⟩ = false ∧ w.frozen? ⟨w0.heap.size + 1, j, none⟩ = false :=
  ⟨Lib.cell_of_heap h.inn j, Lib.cell_of_heap h.res j, Lib.frozen_of_heap h.inn j, Lib.frozen_of_heap h.res j⟩

/-- behind the items' insertion: the new buffer in block g -/
structure NX (w0 : World) (x y : Array Value) (g : Nat) (ao : Option Addr) (cap : Nat) (p : Kp.Bs) (L : List It) (w : World) : Prop where
  box : Box2 w0 x y w
  gt : w0.heap.size + 1 < g
  blk : w.heap[g]? = some (.cells #[.slice ao L.length cap, .int .i64 L.length, .string ⟨p.toArray⟩] 40 (0, 0))
  row : w.ownsRow (w0.heap.size + 2) 90 2 (.slice ao L.length cap) L.length (cellsI L)
  ne : (Value.slice ao L.length cap).ownBlock ≠ some g
theorem NX.late {w0 X W W' : World} {x y : Array Value} {ao : Option Addr} {cap N : Nat} {p : Kp.Bs} {L : List It} (hN : L.length = N) (hB : Box2 w0 x y W) (hb : Below W.heap.size W W') (hrow : W'.ownsRow X.heap.size 90 2 (.slice ao N cap) N (cellsI L)) (hX : w0.heap.size + 1 < X.heap.size) :
    NX w0 x y W'.heap.size ao cap p L (W'.alloc (.cells #[.slice ao N cap, .int .i64 N, .string ⟨p.toArray⟩] 40)) := by
  subst hN
  have hB' := hB.later hb
  have hlt := hB'.lt
  exact ⟨hB'.later ((Below.refl _ _).alloc (Nat.le_refl _) _), hlt, alloc_new _ _, (row_base hrow (by omega)).alloc _, fun e => by have := (hrow.lt _ e).2; omega⟩
theorem NX.early {w0 X W W' : World} {x y z : Array Value} {g : Nat} {ao : Option Addr} {cap N : Nat} {p : Kp.Bs} {L : List It} (hN : L.length = N) (hB : Box2 w0 x y W) (hb : Below W.heap.size W W') (hrow : W'.ownsRow X.heap.size 90 2 (.slice ao N cap) N (cellsI L)) (hg : W.heap.size ≤ g) (hgX : g < X.heap.size)
    (hz : z.size = 3) (hblk : W'.heap[g]? = some (.cells z 40 (0, 0))) :
    NX w0 x y g ao cap p L (((W'.setCell ⟨g, 0, none⟩ (.slice ao N cap)).setCell ⟨g, 1, none⟩ (.int .i64 N)).setCell ⟨g, 2, none⟩ (.string ⟨p.toArray⟩)) := by
  subst hN
  have hB' := hB.later hb
  have hlt0 := hB.lt
  have hlt := hB'.lt
  have hne : (Value.slice ao L.length cap).ownBlock ≠ some g := fun e => by have := (hrow.lt _ e).1; omega
  obtain ⟨a, b, c, rfl⟩ : ∃ a b c, z = #[a, b, c] := by
    match z, hz with
    | ⟨[a, b, c]⟩, _ => exact ⟨a, b, c, rfl⟩
  obtain ⟨W'', hW, h1, h2⟩ := set3 hblk (.slice ao L.length cap) (.int .i64 L.length) (.string ⟨p.toArray⟩)
  have hb'' : Below W.heap.size W W'' := h2 hb hg
  have hrow'' : W''.ownsRow X.heap.size 90 2 (.slice ao L.length cap) L.length (cellsI L) := by
    rw [← hW]
    exact ownsRow_setCell_other (ownsRow_setCell_other (ownsRow_setCell_other hrow hne _) hne _) hne _
  rw [hW]
  exact ⟨hB.later hb'', by omega, h1, row_base hrow'' (by omega), hne⟩
theorem itemsOf_ok {raw : Kp.Bs} {os : List Kp.Bs} (h1 : ∀ b ∈ raw, 33 ≤ b.toNat ∧ b.toNat ≤ 126) (h2 : raw.length ≤ 100) (h3 : ∀ c ∈ os, c ∈ Kp.kanaL) : ∀ x ∈ itemsOf raw os, okItem x := by
  intro x hx
  cases os with
  | nil => simp [itemsOf] at hx
  | cons c os =>
    simp only [itemsOf, List.mem_cons, List.mem_map] at hx
    rcases hx with rfl | ⟨d, hd, rfl⟩
    · exact ⟨fun b hb => by have := h1 b hb; omega, h2, h3 c (by simp)⟩
    · exact ⟨by simp, by simp, h3 d (by simp [hd])⟩
theorem keep3 {w W W' : World} {y : Array Value} {a b c : Value} (h : Box2 w #[a, b, c] y W) (hb : Below W.heap.size W W') : W'.cell? ⟨w.heap.size, 0, none⟩ = some a ∧ W'.cell? ⟨w.heap.size, 1, none⟩ = some b ∧ W'.cell? ⟨w.heap.size, 2, none⟩ = some c := by
  have h' := h.later hb
  exact ⟨(h'.cell 0).1, (h'.cell 1).1, (h'.cell 2).1⟩
set_option maxRecDepth 100000 in
set_option maxHeartbeats 4000000 in
theorem cinsert_any (B0 a br bp bk capA : Nat) (PM : List (Kp.Bs × Bool)) (l : List It) (ao : Option Addr) (cap : Nat) (P q o : Kp.Bs) (os : List Kp.Bs) (c : UInt8) (w : World) (hA : AutoAt B0 w a br bp bk capA PM) (hB0 : B0 ≤ w.heap.size) (hT : Tabs w)
    (hv : w.ownsRow 0 90 2 (.slice ao l.length cap) l.length (cellsI l)) (hit : ∀ x ∈ l, okItem x) (hPp : Kp.part P = true) (hc : Kp.isKey c = true) (hf : Kp.Feeds P [c] o q) (ho : Kp.Kt o os) (hl : l.length + os.length ≤ 64) :
    Calls Tryz.prog 11 #[.pointer (some ⟨a, 0, none⟩), .agg #[.slice ao l.length cap, .int .i64 l.length, .string ⟨P.toArray⟩], .int .u8 c.toNat] w fun e w' => ∃ (v : Value) (l' : List It), e = .returned (.tuple #[.agg #[v, .int .i64 l'.length, .string ⟨q.toArray⟩], .int .i64 0]) ∧ w'.ownsRow w.heap.size 90 2 v l'.length (cellsI l') ∧ l'.map (·.2) = l.map (·.2) ++ os ∧ (∀ x ∈ l', okItem x) ∧ Below w.heap.size w w' := by
  obtain ⟨hP3, hPk⟩ := Kp.part_keys hPp
  obtain ⟨hq3, hqk⟩ := Kp.part_keys (hf.part hPp)
  have hol := ho.len
  have hcr := key_range hc
  have hvo := ho.valid
  have henc : Utf8.encode (c.toNat : Int) = ⟨#[c]⟩ := by
    have h := enc_key c hc
    rwa [show wrap32 (c.toNat : Int) = c.toNat by have := hcr; unfold wrap32; omega] at h
  have hconv : ∀ W : World, (convert 21 9 (.int .i32 c.toNat)).run Tryz.prog W = .ok (.string ⟨#[c]⟩) W := fun W => by
    rw [run_convert_int_string (P := Tryz.prog) W 21 9 .i32 c.toNat (by simp [Tryz.underlying21]) Tryz.underlying9, henc]
  clear henc
  have hadd := fun W => add_key W P c (by omega)
  have hcheck := fun W (hb : Below w.heap.size w W) => bcheck_any l ao cap l.length P W (Utf8Tabs_below hT hb) (row_below hv hb) (by omega) (Nat.le_refl _) (by omega) (fun b hb => key_range (hPk b hb)) hit
  have hstep := fun W (hb : Below w.heap.size w W) => step_any B0 a br bp bk capA PM P c o q W (hA.below hb hB0) (Nat.le_trans hB0 hb.size) hPk hc (by omega) hf (by omega)
  have hval : ∀ W, Below w.heap.size w W → Calls Tryz.prog 32 #[.string ⟨o.toArray⟩] W fun e w' => e = .returned (.bool true) ∧ Below W.heap.size W w' := fun W hb => by
    have h := validF_any ⟨o.toArray⟩ W (by simp [ByteArray.size]; omega) (Utf8Tabs_below hT hb)
    rw [show (⟨o.toArray⟩ : ByteArray).data.toList = o by simp, hvo] at h
    exact h
  have hqs : (⟨q.toArray⟩ : ByteArray).size = q.length := by simp [ByteArray.size]
  have HC := Lib.hid hcheck
  have HSt := Lib.hid hstep
  have HVl := Lib.hid hval
  have Hol := Lib.hid hol
  obtain ⟨k1, k2⟩ := hcr
  have k3 : ¬ (c.toNat : Int) < 33 := by omega
  have k4 : ¬ (126 : Int) < (c.toNat : Int) := by omega
  clear hcheck hstep hval hol hvo
  generalize c.toNat = n at HSt hconv k1 k2 k3 k4 ⊢
  go_enter Tryz.func11, Tryz.ntmps11
  go_wp2_with fail
  have hX := Box2.start w #[.slice ao l.length cap, .int .i64 l.length, .string ⟨P.toArray⟩] #[.slice none 0 0, .int .i64 0, .string ⟨#[]⟩]
  generalize (w.alloc (.cells #[.slice ao l.length cap, .int .i64 l.length, .string ⟨P.toArray⟩] 40)).alloc (.cells #[.slice none 0 0, .int .i64 0, .string ⟨#[]⟩] 40) = W at hX ⊢
  refine (HC.out W hX.below).mono ?_
  rintro e W1 ⟨rfl, hb1⟩
  have hX1 := hX.later hb1
  clear hX hb1
  have c2 : W1.cell? ⟨w.heap.size, 2, none⟩ = some (.string ⟨P.toArray⟩) := (hX1.cell 2).1
  go_wp2_with fail
  refine (HSt.out W1 hX1.below).mono ?_
  rintro e W2 ⟨rfl, hb2⟩
  have hX2 := hX1.later hb2
  clear hX1 hb2 c2
  go_wp2_with fail
  refine (HVl.out W2 hX2.below).mono ?_
  rintro e W3 ⟨rfl, hb3⟩
  have hX3 := hX2.later hb3
  clear hX2 hb3
  go_upto_region 9 with fail
  have htrim := fun W => Tryz.strings_TrimSuffix ⟨(P ++ [c]).toArray⟩ ⟨q.toArray⟩ W (by simp [ByteArray.size]; omega)
  obtain ⟨raw, hraw⟩ : ∃ raw, raw = Lib.trimSuffix (⟨(P ++ [c]).toArray⟩ : ByteArray).data.toList (⟨q.toArray⟩ : ByteArray).data.toList := ⟨_, rfl⟩
  rw [← hraw] at htrim
  have hrawk : ∀ b ∈ raw, 33 ≤ b.toNat ∧ b.toNat ≤ 126 := fun b hb => by
    rw [hraw] at hb
    have h := trim_sub _ _ b hb
    simp only [List.mem_append, List.mem_singleton] at h
    rcases h with h | h
    · exact key_range (hPk b h)
    · rw [h]; exact key_range hc
  have hrawl : raw.length ≤ 100 := by
    rw [hraw]
    refine Nat.le_trans (trim_len _ _) ?_
    simp; omega
  clear hraw
  have c0 : W3.cell? ⟨w.heap.size, 0, none⟩ = some (.slice ao l.length cap) := (hX3.cell 0).1
  have c1 : W3.cell? ⟨w.heap.size, 1, none⟩ = some (.int .i64 l.length) := (hX3.cell 1).1
  have c2 : W3.cell? ⟨w.heap.size, 2, none⟩ = some (.string ⟨P.toArray⟩) := (hX3.cell 2).1
  have hlt3 := hX3.lt
  have hlt4 : w.heap.size < W3.heap.size := by omega
  have hbw := hX3.below
  clear HC HSt HVl hconv hadd
  go_cut [11, 12] (fun s t wx => ∃ (g : Nat) (av : Option Addr) (cv : Nat), s = .pointer (some ⟨g, 0, none⟩) ∧ t = .bool true ∧ NX w #[.slice ao l.length cap, .int .i64 l.length, .string ⟨P.toArray⟩] #[.slice none 0 0, .int .i64 0, .string ⟨#[]⟩] g av cv P (l ++ itemsOf raw os) wx)
  case first =>
    go_region_held3 (fun w' => w'.cell? ⟨w.heap.size, 0, none⟩ = some (.slice ao l.length cap) ∧ w'.cell? ⟨w.heap.size, 1, none⟩ = some (.int .i64 l.length) ∧ w'.cell? ⟨w.heap.size, 2, none⟩ = some (.string ⟨P.toArray⟩))
      (exact keep3 hX3 (by repeat (first | exact Below.refl _ _ | refine belowC ?_ hbi | refine belowC ?_ hbj | refine Below.drew ?_ | refine belowA ?_ _ | refine belowS ?_ (by first | exact Nat.le_refl _ | omega) _)))
      (first
      | (go_at_call 35; refine (htrim _).mono ?_; rintro e w' ⟨rfl, rfl⟩)
      | (go_at_call 34; refine (items_any raw o os _ ho (by omega)).mono ?_; rintro e Wi ⟨v, rfl, hrow, hbi⟩; obtain ⟨am, cm, rfl⟩ := row_slice hrow; obtain ⟨hc1, hf1⟩ := bcell hbi; have hsi := hbi.size; (try simp at hsi); (try (have hsk : W3.heap.size < Wi.heap.size := by omega)))
      | (go_at_call 33; refine (insert_any l (itemsOf raw os) ao am cap cm P _ (row_below hv (hbw.trans (Below.mono (by repeat (first | exact Below.refl _ _ | refine belowC ?_ hbi | refine belowC ?_ hbj | refine Below.drew ?_ | refine belowA ?_ _ | refine belowS ?_ (by first | exact Nat.le_refl _ | omega) _)) hbw.size))) (row_below (row_base hrow (Nat.zero_le _)) (by repeat (first | exact Below.refl _ _ | refine Below.drew ?_ | refine belowA ?_ _))) (by rw [itemsOf_len]; omega)).mono ?_; rintro e Wj ⟨v2, rfl, hrow2, hbj⟩; obtain ⟨av, cv, rfl⟩ := row_slice hrow2; obtain ⟨hc2, hf2⟩ := bcell hbj; have hsj := hbj.size; (try simp at hsj); (try (have hsl : W3.heap.size < Wj.heap.size := by omega)); (try (have hsm : Wi.heap.size < Wj.heap.size := by omega))))
    all_goals
      go_wp2_with fail
      go_meet
    all_goals
      have hN : (l ++ itemsOf raw os).length = l.length + (itemsOf raw os).length := List.length_append
      first
        | exact ⟨_, av, cv, rfl, rfl, NX.late hN hX3 (by repeat (first | exact Below.refl _ _ | refine belowC ?_ hbi | refine belowC ?_ hbj | refine Below.drew ?_ | refine belowA ?_ _ | refine belowS ?_ (by first | exact Nat.le_refl _ | omega) _)) hrow2 (by (try simp) <;> omega)⟩
        | exact ⟨_, av, cv, rfl, rfl, NX.early hN hX3 (by repeat (first | exact Below.refl _ _ | refine belowC ?_ hbi | refine belowC ?_ hbj | refine Below.drew ?_ | refine belowA ?_ _ | refine belowS ?_ (by first | exact Nat.le_refl _ | omega) _)) hrow2 (by omega) (by (try simp) <;> omega) rfl ((hbj.block _ (by simp)).trans (alloc_new _ (.cells #[.slice none 0 0, .int .i64 0, .string ⟨#[]⟩] 40)))⟩
        | exact ⟨_, av, cv, rfl, rfl, NX.early hN hX3 (by repeat (first | exact Below.refl _ _ | refine belowC ?_ hbi | refine belowC ?_ hbj | refine Below.drew ?_ | refine belowA ?_ _ | refine belowS ?_ (by first | exact Nat.le_refl _ | omega) _)) hrow2 (Nat.le_refl _) (by (try simp) <;> omega) rfl ((hbj.block _ (by (try simp) <;> omega)).trans ((hbi.block _ (by simp)).trans (alloc_new _ (.cells #[.slice none 0 0, .int .i64 0, .string ⟨#[]⟩] 40))))⟩
  case rest =>
    obtain ⟨g, av, cv, rfl, rfl, hN⟩ := hcut
    have hout : (l ++ itemsOf raw os).map (·.2) = l.map (·.2) ++ os := by rw [List.map_append, itemsOf_out]
    have hok : ∀ x ∈ l ++ itemsOf raw os, okItem x := fun x hx => by
      rcases List.mem_append.1 hx with hx | hx
      · exact hit x hx
      · exact itemsOf_ok hrawk hrawl ho.1 x hx
    have hlen : (l ++ itemsOf raw os).length ≤ 64 := by rw [List.length_append, itemsOf_len]; exact hl
    generalize l ++ itemsOf raw os = L at hN hout hok hlen
    have g0 : wc.cell? ⟨g, 0, none⟩ = some (.slice av L.length cv) := by rw [Lib.cell_of_heap hN.blk]; rfl
    have g1 : wc.cell? ⟨g, 1, none⟩ = some (.int .i64 L.length) := by rw [Lib.cell_of_heap hN.blk]; rfl
    have g2 : wc.cell? ⟨g, 2, none⟩ = some (.string ⟨P.toArray⟩) := by rw [Lib.cell_of_heap hN.blk]; rfl
    have gf : ∀ j, wc.frozen? ⟨g, j, none⟩ = false := fun j => Lib.frozen_of_heap hN.blk j
    obtain ⟨-, d0, -, df⟩ := hN.box.cell 0
    obtain ⟨-, d1, -, df1⟩ := hN.box.cell 1
    obtain ⟨-, d2, -, df2⟩ := hN.box.cell 2
    change wc.cell? _ = some (.slice none 0 0) at d0
    change wc.cell? _ = some (.int .i64 0) at d1
    change wc.cell? _ = some (.string ⟨#[]⟩) at d2
    have hgt := hN.gt
    have hne1 : g ≠ w.heap.size + 1 := by omega
    have hne2 : w.heap.size + 1 ≠ g := by omega
    have HK := Lib.hid hok
    have HO := Lib.hid hout
    clear c0 c1 c2 htrim hok hout
    go_wp2_with fail
    refine bodyPost_ret (v := .tuple #[.agg #[.slice av L.length cv, .int .i64 L.length, .string ⟨q.toArray⟩], .int .i64 0]) (by simp [results, Tryz.results11, go_sem, d0, d1, d2, hne1, hne2]) rfl ⟨.slice av L.length cv, L, rfl, ?_, HO.out, fun x y h => HK.out (x, y) h, ?_⟩
    · have hr := hN.row.lt
      have hne : (Value.slice av L.length cv).ownBlock ≠ some (w.heap.size + 1) := fun e => by have := (hr _ e).1; omega
      exact ownsRow_setCell_other (ownsRow_setCell_other (ownsRow_setCell_other (ownsRow_setCell_other (row_base hN.row (by omega)) hN.ne _) hne _) hne _) hne _
    · exact belowS (belowS (belowS (belowS hN.box.below (by show w.heap.size ≤ g; omega) _) (by simp) _) (by simp) _) (by simp) _
end Go.Proofs.YtmnbhjijphlanaaGreatDoor
