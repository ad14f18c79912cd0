/-
  The automaton in memory; resolve: what pending keys begin with is written.
-/
import Derived.Test.YtmnbhjijphlanaaGreatDoorClean
import Derived.RegionTactic
import Derived.BigRegion
namespace Go.Proofs.YtmnbhjijphlanaaGreatDoor
open Go.RowKit Mp

def ruV (r : Kp.Rl) : Value := .agg #[.string ⟨r.keys.toArray⟩, .string ⟨r.out.toArray⟩, .string ⟨r.next.toArray⟩]
/-- the automaton in block a, its maps and its keys, all below B -/
structure AutoAt (B : Nat) (w : World) (a br bp bk cap : Nat) (PM : List (Kp.Bs × Bool)) : Prop where
  le : a < B ∧ br < B ∧ bp < B ∧ bk < B
  blk : w.heap[a]? = some (.cells #[.map (some br), .map (some bp), .slice (some ⟨bk, 0, none⟩) Kp.akeys.length cap] 50 (0, 0))
  rules : MapIs w br (ent strV ruV (Kp.rules.map fun r => (r.keys, r)))
  parts : MapIs w bp (ent strV Value.bool PM)
  part : ∀ s, (Al.get PM s).getD false = Kp.part s
  keys : ∀ i, (h : i < Kp.akeys.length) → w.cell? ⟨bk, i, none⟩ = some (.int .u8 (Kp.akeys[i]).toNat)

theorem AutoAt.below {B B' : Nat} {w w' : World} {a br bp bk cap : Nat} {PM : List (Kp.Bs × Bool)} (h : AutoAt B w a br bp bk cap PM) (hb : Below B' w w') (hB : B ≤ B') : AutoAt B w' a br bp bk cap PM := by
  obtain ⟨h1, h2, h3, h4⟩ := h.le
  exact ⟨h.le, (hb.block a (by omega)).trans h.blk, h.rules.below hb (by omega), h.parts.below hb (by omega), h.part, fun i hi => (hb.cell (p := ⟨bk, i, none⟩) (by show bk < B'; omega)).trans (h.keys i hi)⟩

theorem get_rules (s : Kp.Bs) : Al.get (Kp.rules.map fun r => (r.keys, r)) s = Kp.find s := by
  unfold Kp.find
  induction Kp.rules with
  | nil => rfl
  | cons r l ih =>
    rw [List.map_cons, Al.get_cons, List.find?_cons, ih]
    by_cases h : r.keys = s
    · simp [h]
    · have e : (r.keys == s) = false := by simpa using h
      simp [h, e]

theorem AutoAt.lookRule {B : Nat} {w : World} {a br bp bk cap : Nat} {PM : List (Kp.Bs × Bool)} (h : AutoAt B w a br bp bk cap PM) (s : ByteArray) {R : Kp.Rl} {ok : Bool} (hR : R = (Kp.find s.data.toList).getD ⟨[], [], []⟩) (hok : ok = (Kp.find s.data.toList).isSome) :
    (Instr.lookup 47 (.map (some br)) (.string s) true).run Tryz.prog w = .ok (.tuple #[.agg #[.string ⟨R.keys.toArray⟩, .string ⟨R.out.toArray⟩, .string ⟨R.next.toArray⟩], .bool ok]) w := by
  have := h.rules.lookup keyBy_s Tryz.underlying47 (Tryz.zeroValue53 w) s.data.toList true
  rw [get_rules, ← strV_eta] at this
  rw [this, hR, hok]
  cases Kp.find s.data.toList <;> rfl
theorem AutoAt.lookPart {B : Nat} {w : World} {a br bp bk cap : Nat} {PM : List (Kp.Bs × Bool)} (h : AutoAt B w a br bp bk cap PM) (s : ByteArray) :
    (Instr.lookup 48 (.map (some bp)) (.string s) false).run Tryz.prog w = .ok (.bool (Kp.part s.data.toList)) w := by
  have := h.parts.lookup keyBy_s Tryz.underlying48 (Tryz.zeroValue4 w) s.data.toList false
  rw [← strV_eta] at this
  rw [this, ← h.part]
  cases Al.get PM s.data.toList <;> rfl

theorem findD_len {s : Kp.Bs} {R : Kp.Rl} (h : R = (Kp.find s).getD ⟨[], [], []⟩) : R.next.length ≤ 4 ∧ R.out.length ≤ 12 := by
  have hall : ∀ r ∈ Kp.rules, r.next.length ≤ 4 ∧ r.out.length ≤ 12 := by decide +kernel
  cases hf : Kp.find s with
  | none => rw [h, hf]; simp
  | some r => rw [h, hf]; exact hall r (Kp.find_some hf).1

theorem alloc_new (w : World) (o : Obj) : (w.alloc o).heap[w.heap.size]? = some o := (MapKept.heap_alloc w o).1
theorem bld_lt {B b : Nat} {bs : List Value} {w : World} (h : Lib.IsBuilder 71 5 B b bs w) : b < w.heap.size := h.elim (·.lt) (·.lt)
theorem kept_of_below {e : TypeId} {b : Option Nat} {w w' : World} (h : Below w.heap.size w w') : Lib.OthersKept e b w w' := fun k o hk _ _ => by
  rw [h.block k (Array.getElem?_eq_some_iff.1 hk).1]; exact hk
theorem drop_data (s : ByteArray) (n : Nat) : s.extract n s.size = ⟨(s.data.toList.drop n).toArray⟩ := by
  apply ByteArray.ext
  apply Array.toList_inj.1
  simp only [ByteArray.data_extract, Array.toList_extract, List.extract_eq_take_drop]
  exact List.take_of_length_le (by simp)
theorem cat_data (l : Kp.Bs) (s : ByteArray) (n : Nat) : ((⟨l.toArray⟩ : ByteArray) ++ s.extract n s.size) = ⟨(l ++ s.data.toList.drop n).toArray⟩ := by
  rw [drop_data, ByteArray.mk_append_mk]
theorem take_one (s : ByteArray) (h : 0 < s.size) : Lib.byteCells (s.data.toList.take 1) = [.int .u8 s[0].toNat] := by
  have h' : 0 < s.data.toList.length := by simpa using h
  cases hl : s.data.toList with
  | nil => rw [hl] at h'; cases h'
  | cons x l =>
    have : s[0] = x := by
      show s.data[0] = x
      rw [← Array.getElem_toList]
      simp [hl]
    simp [Lib.byteCells, this]
theorem ret_s {a b : ByteArray} (h : a = b) : Ending.returned (.string a) = .returned (.string b) := by rw [h]
theorem le_alloc_drew {B : Nat} {w : World} (h : B ≤ w.heap.size) (o : Obj) : B ≤ (w.alloc o).drew.heap.size := by simp; omega
theorem take_data (s : ByteArray) (n : Nat) : (s.extract 0 n).data.toList = s.data.toList.take n := by simp
theorem resolveN_none {l : Kp.Bs} {n : Nat} (h0 : 0 < n) (h : false = (Kp.find (l.take n)).isSome) : Kp.resolveN (n - 1) l = Kp.resolveN n l := by
  obtain ⟨m, rfl⟩ : ∃ m, n = m + 1 := ⟨n - 1, by omega⟩
  simp only [Kp.resolveN, Nat.add_sub_cancel]
  cases hf : Kp.find (l.take (m + 1)) with
  | none => rfl
  | some r => rw [hf] at h; cases h
theorem resolveN_some {l : Kp.Bs} {n : Nat} {R : Kp.Rl} (h0 : 0 < n) (h : true = (Kp.find (l.take n)).isSome) (hR : R = (Kp.find (l.take n)).getD ⟨[], [], []⟩) : Kp.resolveN n l = (R.out, R.next ++ l.drop n) := by
  obtain ⟨m, rfl⟩ : ∃ m, n = m + 1 := ⟨n - 1, by omega⟩
  simp only [Kp.resolveN]
  cases hf : Kp.find (l.take (m + 1)) with
  | none => rw [hf] at h; cases h
  | some r => rw [hf] at hR; rw [hR]; rfl

set_option maxRecDepth 100000 in
set_option maxHeartbeats 1000000 in
theorem resolve_any (B0 B a b br bp bk cap : Nat) (PM : List (Kp.Bs × Bool)) (bs : List Value) (s : ByteArray) (w : World) (hA : AutoAt B0 w a br bp bk cap PM) (hB0 : B0 ≤ B) (hBw : B ≤ w.heap.size) (h : Lib.IsBuilder 71 5 B b bs w)
    (hlen : bs.length ≤ 100000) (hs0 : 0 < s.size) (hs : s.size ≤ 1000) :
    Calls Tryz.prog 48 #[.pointer (some ⟨a, 0, none⟩), .pointer (some ⟨b, 0, none⟩), .string s] w fun e w' => e = .returned (.string ⟨(Kp.resolve s.data.toList).2.toArray⟩) ∧
      Lib.IsBuilder 71 5 B b (bs ++ Lib.byteCells (Kp.resolve s.data.toList).1) w' ∧ Below B w w' ∧ Lib.OthersKept 5 (some b) w w' := by
  go_enter Tryz.func48, Tryz.ntmps48
  go_wp2
  go_loopw [7] (fun i wr => ∃ n : Nat, n ≤ s.size ∧ i = .int .i64 n ∧ Kp.resolveN n s.data.toList = Kp.resolve s.data.toList ∧ Below w.heap.size w wr) (fun i _ => (intOf i).toNat)
  case atStart => exact ⟨s.size, Nat.le_refl _, rfl, by unfold Kp.resolve; simp, Below.refl _ _⟩
  case round =>
    obtain ⟨n, hn, rfl, hR, hb⟩ := hrel
    have hA' := hA.below hb (Nat.le_trans hB0 hBw)
    obtain ⟨hle1, hle2, hle3, hle4⟩ := hA.le
    have c0 : wr.cell? ⟨a, 0, none⟩ = some (.map (some br)) := by simp [World.cell?, hA'.blk]
    by_cases h0 : 0 < n
    · have hsz := hb.size
      obtain ⟨R, hfR⟩ : ∃ R, R = (Kp.find (s.extract 0 n).data.toList).getD ⟨[], [], []⟩ := ⟨_, rfl⟩
      obtain ⟨ok, hfo⟩ : ∃ ok, ok = (Kp.find (s.extract 0 n).data.toList).isSome := ⟨_, rfl⟩
      have hlk := fun o => (hA'.below (((Below.refl _ wr).alloc (Nat.le_refl _) o).drew) (by omega)).lookRule (s.extract 0 n) hfR hfo
      have hlk0 := (hA'.below ((Below.refl wr.heap.size wr).drew) (by omega)).lookRule (s.extract 0 n) hfR hfo
      have c1 : ∀ o, (wr.alloc o).cell? ⟨a, 0, none⟩ = some (.map (some br)) := fun o => ((Below.refl _ wr).alloc (Nat.le_refl _) o).cell (p := ⟨a, 0, none⟩) (by show a < _; omega) |>.trans c0
      obtain ⟨hRn, hRo⟩ := findD_len hfR
      have hRs : (⟨R.out.toArray⟩ : ByteArray).size ≤ 12 := by simpa [ByteArray.size] using hRo
      rw [take_data] at hfR hfo
      have HR := Lib.hid hfR
      have HO := Lib.hid hfo
      have HN := Lib.hid hR
      clear hfR hfo hR
      cases ok
      · go_wp2
        go_region
        go_wp2
        go_roundw
        case rel => exact ⟨n - 1, by omega, by go_num, (resolveN_none h0 HO.out).trans HN.out, (hb.alloc (by omega) _).drew⟩
        case measure => simp [intOf]; omega
      · go_wp2
        go_region
        go_wp2_with (go_at_call 55; refine (writeString_any B b bs _ _ (bld_below h ((hb.alloc (by omega) _).drew)) (by omega) (le_alloc_drew (by omega) _)).mono ?_)
        rintro e w1 ⟨rfl, hB1, hb1, hk1⟩
        have c2 : w1.cell? ⟨wr.heap.size, 2, none⟩ = some (.string ⟨R.next.toArray⟩) := by
          have := hk1 wr.heap.size _ (alloc_new wr _) (by have := bld_lt h; simp; omega) (by simp)
          simp [World.cell?, this]
        go_wp2
        go_quiet (fail)
        go_wp2
        go_ret
        have hres : Kp.resolve s.data.toList = (R.out, R.next ++ s.data.toList.drop n) := HN.out.symm.trans (resolveN_some h0 HO.out HR.out)
        rw [hres]
        have hb2 := (hb.alloc (Nat.le_trans hsz (Nat.le_refl _)) (.cells #[.string ⟨R.keys.toArray⟩, .string ⟨R.out.toArray⟩, .string ⟨R.next.toArray⟩] 53)).drew
        exact ⟨ret_s (cat_data _ _ _), .inr hB1, below_drewN ((hb2.mono hBw).trans hb1) _, (kept_of_below hb2).trans hk1⟩
    · have h00 : n = 0 := by omega
      subst h00
      have hx : (0 : Int) < (s.size : Int) := by omega
      have hsz := hb.size
      go_wp2_with (go_at_call 49; refine (writeByte_any B b bs _ _ (bld_below h hb) (by omega) (by omega)).mono ?_)
      rintro e w1 ⟨rfl, hB1, hb1, hk1⟩
      go_wp2
      go_ret
      have hres : Kp.resolve s.data.toList = (s.data.toList.take 1, s.data.toList.drop 1) := hR.symm
      rw [hres]
      refine ⟨ret_s (drop_data _ _), .inr ?_, (hb.mono hBw).trans hb1, (kept_of_below hb).trans hk1⟩
      rw [take_one s hs0]; exact hB1
end Go.Proofs.YtmnbhjijphlanaaGreatDoor
