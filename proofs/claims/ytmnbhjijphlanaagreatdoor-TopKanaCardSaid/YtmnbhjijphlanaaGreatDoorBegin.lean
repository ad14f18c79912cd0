/-
  The specification of layer 6 over the rules of the document: Keys, begin, apply, feed, Run.
-/
import Derived.Test.YtmnbhjijphlanaaGreatDoorFindL
namespace Go.Proofs.YtmnbhjijphlanaaGreatDoor
open Go.RowKit Mp Go.Shelf Go.Lib

theorem one_byte (s : ByteArray) (k : Nat) (h : k < s.size) : (s.extract (k : Int).toNat ((k : Int) + 1).toNat).data.toList = (⟨#[s[k]]⟩ : ByteArray).data.toList := by
  have h' : k < s.data.toList.length := by simpa using h
  have e : ((k : Int) + 1).toNat = k + 1 := by omega
  rw [e, Int.toNat_natCast, ByteArray.data_extract, Array.toList_extract]
  simp only [List.extract_eq_take_drop]
  rw [show k + 1 - k = 1 by omega, List.drop_eq_getElem_cons h']
  simp [ByteArray.getElem_eq_getElem_data]
set_option maxRecDepth 100000 in
set_option maxHeartbeats 2000000 in
theorem keys_any (s : ByteArray) (hs : s.size ≤ 100000) (w : World) : Calls Tryz.prog 27 #[.string s] w fun e w' => e = .returned (.string ⟨(s.data.toList.filter Kp.isKey).toArray⟩) ∧ w' = w := by
  go_enter Tryz.func27, Tryz.ntmps27
  go_wp2_with fail
  go_loopw [3, 4] (fun o i wr => ∃ k : Nat, k ≤ s.size ∧ i = .int .i64 k ∧ o = .string ⟨((s.data.toList.take k).filter Kp.isKey).toArray⟩ ∧ wr = w) (fun _ i _ => s.size - (intOf i).toNat)
  case atStart => exact ⟨0, Nat.zero_le _, rfl, rfl, rfl⟩
  case round =>
    obtain ⟨k, hkl, rfl, rfl, rfl⟩ := hrel
    by_cases hlt : k < s.size
    · have hfs := filter_snoc s k hlt
      have hlen : ((s.data.toList.take k).filter Kp.isKey).length ≤ 100000 := Nat.le_trans (List.length_filter_le _ _) (by simp; omega)
      have hsl : ∀ W : World, (Instr.slice 9 (.string s) (some (.int .i64 k)) (some (.int .i64 ((k : Int) + 1))) none).run Tryz.prog W = .ok (.string ⟨#[s[k]]⟩) W := fun W => by
        rw [run_slice_string W 9 _ .i64 .i64 (k : Int) ((k : Int) + 1) Tryz.underlying9 (by omega) (by omega) (by omega)]
        rw [show s.extract (k : Int).toNat ((k : Int) + 1).toNat = ⟨#[s[k]]⟩ from ByteArray.ext (Array.toList_inj.1 (one_byte s k hlt))]
      have hadd := fun W => add_strs W ((s.data.toList.take k).filter Kp.isKey) [s[k]] (by omega) (by simp)
      generalize (s.data.toList.take k).filter Kp.isKey = o at hfs hadd hlen
      have hkd : Kp.isKey s[k] = (decide (33 ≤ s[k].toNat) && decide (s[k].toNat ≤ 126)) := rfl
      obtain ⟨c, hix⟩ : ∃ c, s[k] = c := ⟨_, rfl⟩
      rw [hix] at hfs hadd hkd
      simp only [hix] at hsl
      cases hk : Kp.isKey c with
      | true =>
        rw [hk, if_pos rfl] at hfs
        rw [hk] at hkd
        have h12 : 33 ≤ c.toNat ∧ c.toNat ≤ 126 := by simpa using hkd.symm
        have h1z : (33 : Int) ≤ c.toNat := by omega
        have h2z : (c.toNat : Int) ≤ 126 := by omega
        clear hkd
        go_wp2_with fail
        go_roundw
        case rel => exact ⟨k + 1, by omega, by go_num, by rw [hfs], trivial⟩
        case measure => simp only [intOf]; omega
      | false =>
        rw [hk, if_neg (by simp), List.append_nil] at hfs
        rw [hk] at hkd
        by_cases h1 : 33 ≤ c.toNat
        · have h1z : (33 : Int) ≤ c.toNat := by omega
          have h2z : ¬ (c.toNat : Int) ≤ 126 := fun h => by
            have : c.toNat ≤ 126 := by omega
            simp [h1, this] at hkd
          clear hkd
          go_wp2_with fail
          go_roundw
          case rel => exact ⟨k + 1, by omega, by go_num, by rw [hfs], trivial⟩
          case measure => simp [intOf]; omega
        · have h1z : (c.toNat : Int) < 33 := by omega
          clear hkd h1
          go_wp2_with fail
          go_roundw
          case rel => exact ⟨k + 1, by omega, by go_num, by rw [hfs], trivial⟩
          case measure => simp [intOf]; omega
    · obtain rfl : k = s.size := by omega
      go_wp2_with fail
      go_ret
      exact ⟨ret_str (by rw [List.take_of_length_le (by simp)]), rfl⟩

/-- what begin finds -/
def beginN (s : Kp.Bs) : Nat → Option Kp.Rl
  | 0 => none
  | n + 1 => match Kp.find (s.take (n + 1)) with
    | some r => some r
    | none => beginN s n
theorem begin_resolve (s : Kp.Bs) : ∀ n, n ≤ s.length → Kp.resolveN n s = match beginN s n with | some r => (r.out, r.next ++ s.drop r.keys.length) | none => (s.take 1, s.drop 1)
  | 0, _ => rfl
  | n + 1, h => by
    unfold Kp.resolveN beginN
    cases hf : Kp.find (s.take (n + 1)) with
    | none => exact begin_resolve s n (by omega)
    | some r =>
      have := (Kp.find_some hf).2
      simp [this, Nat.min_eq_left h]

theorem st6 {W : World} {b : Nat} {x y z : Value} (h : W.heap[b]? = some (.cells #[x, y, z] 60 (0, 0))) :
    (∀ o, (W.alloc o).heap[b]? = some (.cells #[x, y, z] 60 (0, 0))) ∧ (∀ o, (W.alloc o).cell? ⟨b, 0, none⟩ = some x) ∧ (∀ o, (W.alloc o).cell? ⟨b, 1, none⟩ = some y) ∧ (∀ o, (W.alloc o).cell? ⟨b, 2, none⟩ = some z) ∧ (∀ o i, (W.alloc o).frozen? ⟨b, i, none⟩ = false) := by
  have hlt := (Array.getElem?_eq_some_iff.1 h).1
  have ha : ∀ o, (W.alloc o).heap[b]? = some (.cells #[x, y, z] 60 (0, 0)) := fun o => (Below.heap_alloc W o b hlt).trans h
  exact ⟨ha, fun o => by rw [Lib.cell_of_heap (ha o)]; rfl, fun o => by rw [Lib.cell_of_heap (ha o)]; rfl, fun o => by rw [Lib.cell_of_heap (ha o)]; rfl, fun o i => Lib.frozen_of_heap (ha o) i⟩
theorem set3 {W : World} {b : Nat} {x y z : Value} {t : TypeId} {f : Nat × Nat} (h : W.heap[b]? = some (.cells #[x, y, z] t f)) (p q r : Value) :
    ∃ W', ((W.setCell ⟨b, 0, none⟩ p).setCell ⟨b, 1, none⟩ q).setCell ⟨b, 2, none⟩ r = W' ∧ W'.heap[b]? = some (.cells #[p, q, r] t f) ∧ ∀ {B : Nat} {w : World}, Below B w W → B ≤ b → Below B w W' := by
  refine ⟨_, rfl, ?_, fun hb hB => ((hb.setCell (p := ⟨b, 0, none⟩) hB _).setCell (p := ⟨b, 1, none⟩) hB _).setCell (p := ⟨b, 2, none⟩) hB _⟩
  simp [World.setCell, Array.getElem?_modify, h]
set_option maxRecDepth 100000 in
set_option maxHeartbeats 2000000 in
theorem begin_any (g cap : Nat) (s : Kp.Bs) (hs : s.length ≤ 100000) (w : World) (hR : RowAt w g) :
    Calls Tryz.prog 74 #[.slice (some ⟨g, 0, none⟩) 162 cap, .string ⟨s.toArray⟩] w fun e w' => e = .returned (.tuple #[ruV ((beginN s s.length).getD ⟨[], [], []⟩), .bool (beginN s s.length).isSome]) ∧ Below w.heap.size w w' := by
  have hsz : (⟨s.toArray⟩ : ByteArray).size = s.length := by simp [ByteArray.size]
  go_enter Tryz.func74, Tryz.ntmps74
  go_wp2_with fail
  go_loopw [6] (fun i wr => ∃ n : Nat, n ≤ s.length ∧ i = .int .i64 n ∧ Below w.heap.size w wr ∧ wr.heap[w.heap.size]? = some (.cells #[.string ⟨#[]⟩, .string ⟨#[]⟩, .string ⟨#[]⟩] 60 (0, 0)) ∧ beginN s s.length = beginN s n) (fun i _ => (intOf i).toNat)
  case atStart => exact ⟨s.length, Nat.le_refl _, rfl, (Below.refl _ _).alloc (Nat.le_refl _) _, alloc_new _ _, rfl⟩
  case round =>
    obtain ⟨n, hn, rfl, hb, hbk, hf⟩ := hrel
    have hglt := hR.lt
    have hR1 := hR.below hb
    have hlt := (Array.getElem?_eq_some_iff.1 hbk).1
    cases n with
    | zero =>
      have f0 : wr.frozen? ⟨w.heap.size, 0, none⟩ = false := Lib.frozen_of_heap hbk 0
      have f1 : wr.frozen? ⟨w.heap.size, 1, none⟩ = false := Lib.frozen_of_heap hbk 1
      have f2 : wr.frozen? ⟨w.heap.size, 2, none⟩ = false := Lib.frozen_of_heap hbk 2
      have c0 : wr.cell? ⟨w.heap.size, 0, none⟩ = some (.string ⟨#[]⟩) := by rw [Lib.cell_of_heap hbk]; rfl
      have c1 : wr.cell? ⟨w.heap.size, 1, none⟩ = some (.string ⟨#[]⟩) := by rw [Lib.cell_of_heap hbk]; rfl
      have c2 : wr.cell? ⟨w.heap.size, 2, none⟩ = some (.string ⟨#[]⟩) := by rw [Lib.cell_of_heap hbk]; rfl
      go_wp2_with fail
      obtain ⟨W', hW, hbk', hB⟩ := set3 hbk (.string ⟨#[]⟩) (.string ⟨#[]⟩) (.string ⟨#[]⟩)
      rw [hW]
      have d0 : W'.cell? ⟨w.heap.size, 0, none⟩ = some (.string ⟨#[]⟩) := by rw [Lib.cell_of_heap hbk']; rfl
      have d1 : W'.cell? ⟨w.heap.size, 1, none⟩ = some (.string ⟨#[]⟩) := by rw [Lib.cell_of_heap hbk']; rfl
      have d2 : W'.cell? ⟨w.heap.size, 2, none⟩ = some (.string ⟨#[]⟩) := by rw [Lib.cell_of_heap hbk']; rfl
      refine bodyPost_ret (v := .tuple #[.agg #[.string ⟨#[]⟩, .string ⟨#[]⟩, .string ⟨#[]⟩], .bool false]) (by simp [results, Tryz.results74, go_sem, d0, d1, d2]) rfl ⟨by rw [hf]; rfl, hB hb (Nat.le_refl _)⟩
    | succ n =>
      have hsl : ∀ W : World, (Instr.slice 9 (.string ⟨s.toArray⟩) none (some (.int .i64 ((n + 1 : Nat) : Int))) none).run Tryz.prog W = .ok (.string ⟨(s.take (n + 1)).toArray⟩) W := fun W => by
        rw [run_slice_string_h (P := Tryz.prog) W 9 _ Tryz.underlying9 .i64 ((n + 1 : Nat) : Int) (by omega) (by rw [hsz]; omega)]
        rw [show ((⟨s.toArray⟩ : ByteArray).extract 0 ((n + 1 : Nat) : Int).toNat) = ⟨(s.take (n + 1)).toArray⟩ from ByteArray.ext (Array.toList_inj.1 (by simp))]
      have hcon := find_any g cap (s.take (n + 1)) wr hR1
      have hbn : beginN s (n + 1) = match Kp.find (s.take (n + 1)) with | some r => some r | none => beginN s n := rfl
      obtain ⟨m, hm⟩ : ∃ m : Nat, m = n + 1 := ⟨_, rfl⟩
      have hmn : ((m : Nat) : Int) - 1 = n := by omega
      rw [← hm] at hsl hcon hbn hn hf ⊢
      have hm0 : 0 < m := by omega
      have hnm : n ≤ s.length := by omega
      clear hm
      cases hfd : Kp.find (s.take m) with
      | none =>
        rw [hfd] at hcon hbn
        simp only [ruV, Option.getD_none, Option.isSome_none] at hcon
        go_wp2_with (go_at_call 95; refine hcon.mono ?_; rintro e w2 ⟨rfl, hb2⟩)
        go_roundw
        case rel =>
          have hs2 := hb2.size
          have hs1 := hb.size
          refine ⟨n, hnm, by rw [← hmn], ?_, ?_, hf.trans hbn⟩
          · exact (hb.trans (hb2.mono hs1)).alloc (by omega) _
          · exact (Below.heap_alloc _ _ _ (by omega)).trans ((hb2.block _ hlt).trans hbk)
        case measure => simp [intOf]; omega
      | some r =>
        rw [hfd] at hcon hbn
        simp only [ruV, Option.getD_some, Option.isSome_some] at hcon
        have hs2 : ∀ w2, Below wr.heap.size wr w2 → w2.heap[w.heap.size]? = some (.cells #[.string ⟨#[]⟩, .string ⟨#[]⟩, .string ⟨#[]⟩] 60 (0, 0)) := fun w2 h => (h.block _ hlt).trans hbk
        go_wp2_with (go_at_call 95; refine hcon.mono ?_; rintro e w2 ⟨rfl, hb2⟩; obtain ⟨e0, e1, e2, e3, e4⟩ := st6 (hs2 w2 hb2))
        have hs1 := hb.size
        have hs3 := hb2.size
        obtain ⟨W', hW, hbk', hB⟩ := set3 (e0 (.cells #[.string ⟨r.keys.toArray⟩, .string ⟨r.out.toArray⟩, .string ⟨r.next.toArray⟩] 60)) (.string ⟨r.keys.toArray⟩) (.string ⟨r.out.toArray⟩) (.string ⟨r.next.toArray⟩)
        rw [hW]
        have d0 : W'.cell? ⟨w.heap.size, 0, none⟩ = some (.string ⟨r.keys.toArray⟩) := by rw [Lib.cell_of_heap hbk']; rfl
        have d1 : W'.cell? ⟨w.heap.size, 1, none⟩ = some (.string ⟨r.out.toArray⟩) := by rw [Lib.cell_of_heap hbk']; rfl
        have d2 : W'.cell? ⟨w.heap.size, 2, none⟩ = some (.string ⟨r.next.toArray⟩) := by rw [Lib.cell_of_heap hbk']; rfl
        refine bodyPost_ret (v := .tuple #[.agg #[.string ⟨r.keys.toArray⟩, .string ⟨r.out.toArray⟩, .string ⟨r.next.toArray⟩], .bool true]) (by simp [results, Tryz.results74, go_sem, d0, d1, d2]) rfl ⟨by rw [hf, hbn]; rfl, hB ((hb.trans (hb2.mono hs1)).alloc (by omega) _) (Nat.le_refl _)⟩
end Go.Proofs.YtmnbhjijphlanaaGreatDoor
