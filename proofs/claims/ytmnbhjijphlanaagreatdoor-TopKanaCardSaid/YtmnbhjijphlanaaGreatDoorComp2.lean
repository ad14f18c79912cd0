/-
  compose: items (the items for the characters of a text of kana).
-/
import Derived.Test.YtmnbhjijphlanaaGreatDoorComp1
import Derived.Test.YtmnbhjijphlanaaGreatDoorPut
namespace Go.Proofs.YtmnbhjijphlanaaGreatDoor
open Go.RowKit Mp Go.Shelf Go.Lib

namespace Kp
theorem Kt.at {l : Bs} {cs : List Bs} (h : Kt l cs) : ∀ n, (hn : n < cs.length) → l.drop (3 * n) = cs[n] ++ (cs.drop (n + 1)).flatten ∧ cs[n] ∈ kanaL := by
  induction cs generalizing l with
  | nil => intro n hn; simp at hn
  | cons c cs ih =>
    intro n hn
    obtain ⟨ht, hc, rfl⟩ := h.tail
    have f1 := (kana_facts c hc).1
    cases n with
    | zero => exact ⟨by simp, hc⟩
    | succ n =>
      obtain ⟨h1, h2⟩ := ih ht n (by simpa using hn)
      refine ⟨?_, h2⟩
      rw [show 3 * (n + 1) = 3 + 3 * n by omega, ← List.drop_drop, List.drop_left' f1, h1]
      rfl
/-- what a range over a text of kana meets at place n -/
theorem Kt.decode {l : Bs} {cs : List Bs} (h : Kt l cs) (n : Nat) (hn : n < cs.length) : ∃ rn : Nat, Utf8.decode ⟨l.toArray⟩ (3 * n) = (rn, 3) ∧ Utf8.encode (rn : Int) = ⟨(cs[n]).toArray⟩ ∧ rn < 65536 := by
  obtain ⟨h1, h2⟩ := h.at n hn
  obtain ⟨f1, -, -, -, -, f6, f7⟩ := kana_facts _ h2
  refine ⟨(decodeL cs[n]).1, ?_, f6, f7⟩
  rw [← decodeL_drop]
  show decodeL (l.drop (3 * n)) = _
  rw [h1, decode_kana h2]
end Kp

/-- the items for characters: the first bears the keys -/
def rawAt (raw : Kp.Bs) (n : Nat) : Kp.Bs := if n = 0 then raw else []
def itemsOf (raw : Kp.Bs) : List Kp.Bs → List It
  | [] => []
  | c :: r => (raw, c) :: r.map (fun d => ([], d))
theorem itemsOf_snoc (raw : Kp.Bs) (l : List Kp.Bs) (c : Kp.Bs) : itemsOf raw (l ++ [c]) = itemsOf raw l ++ [(rawAt raw l.length, c)] := by
  cases l with
  | nil => simp [itemsOf, rawAt]
  | cons a l => simp [itemsOf, rawAt]
theorem itemsOf_len (raw : Kp.Bs) (l : List Kp.Bs) : (itemsOf raw l).length = l.length := by cases l <;> simp [itemsOf]
theorem itemsOf_out (raw : Kp.Bs) (l : List Kp.Bs) : (itemsOf raw l).map (·.2) = l := by cases l <;> simp [itemsOf, Function.comp_def]
theorem info90 : (Tryz.prog.info? 90).map (fun i => (i.zero, i.size, i.bytes)) = some (some (.agg #[.string ⟨#[]⟩, .string ⟨#[]⟩]), 2, 32) := by kernel_rfl
theorem two_newT (t : TypeId) (wj : World) (a b : Value) : ∀ j u, [a, b][j]? = some u → (wj.alloc (.cells #[a, b] t)).cell? ((⟨wj.heap.size, 0, none⟩ : Addr).add j) = some u := by
  intro j u h
  match j with
  | 0 => simp at h; subst h; simp [Addr.add]
  | 1 => simp at h; subst h; simp [Addr.add]
  | j + 2 => simp at h
theorem two_strs (a b : ByteArray) : ∀ u ∈ [Value.string a, Value.string b], u.oneCell' = true := by
  intro u hu
  simp only [List.mem_cons, List.not_mem_nil, or_false] at hu
  rcases hu with rfl | rfl <;> rfl

/-- while items goes on -/
structure IS (w0 : World) (s : ByteArray) (pos : Nat) (v : Value) (L : List It) (w : World) : Prop where
  below : Below w0.heap.size w0 w
  it : w.heap[w0.heap.size]? = some (.stringIter s pos)
  row : w.ownsRow (w0.heap.size + 1) 90 2 v L.length (cellsI L)
theorem IS.lt {w0 w : World} {s : ByteArray} {pos : Nat} {v : Value} {L : List It} (h : IS w0 s pos v L w) : w0.heap.size < w.heap.size := (Array.getElem?_eq_some_iff.1 h.it).1
theorem IS.next {w0 w : World} {s : ByteArray} {pos : Nat} {v : Value} {L : List It} (h : IS w0 s pos v L w) (pos' : Nat) : IS w0 s pos' v L (w.iterAt w0.heap.size s pos') := by
  refine ⟨below_iterAt h.below (Nat.le_refl _) s pos', iterAt_heap w _ s pos pos' h.it, h.row.1, ?_⟩
  rcases h.row.2 with hn | ⟨g, cap, cur, hv, hbg, hg, rest⟩
  · exact .inl hn
  · exact .inr ⟨g, cap, cur, hv, hbg, (iterAt_other w _ g s pos' (by omega)).trans hg, rest⟩
theorem IS.append {w0 w w2 : World} {s : ByteArray} {pos : Nat} {v v' : Value} {L : List It} {a b : Kp.Bs} {ob : Obj} (h : IS w0 s pos v L w)
    (hown : w2.ownsRow (w0.heap.size + 1) 90 2 v' (L.length + 1) (cellsI L ++ [.string ⟨a.toArray⟩, .string ⟨b.toArray⟩])) (hg : (w.alloc ob).grownBy w2 v.ownBlock) : IS w0 s pos v' (L ++ [(a, b)]) w2 := by
  have hlt := h.lt
  have hr := h.row.lt
  refine ⟨(h.below.alloc (by omega) ob).grown hg (by simp; omega) (fun k hk => by have := (hr k hk).1; omega), ?_, ?_⟩
  · rw [hg.block w0.heap.size (by simp; omega) (fun e => by have := (hr _ e.symm).1; omega), Below.heap_alloc _ _ _ hlt]; exact h.it
  · rw [cellsI_append]
    have e : (L ++ [(a, b)]).length = L.length + 1 := by simp
    rw [e]
    exact hown

set_option maxRecDepth 100000 in
set_option maxHeartbeats 2000000 in
theorem items_any (raw out : Kp.Bs) (cs : List Kp.Bs) (w : World) (h : Kp.Kt out cs) (hl : cs.length ≤ 1000) :
    Calls Tryz.prog 34 #[.string ⟨raw.toArray⟩, .string ⟨out.toArray⟩] w fun e w' => ∃ v, e = .returned v ∧ w'.ownsRow w.heap.size 90 2 v (itemsOf raw cs).length (cellsI (itemsOf raw cs)) ∧ Below w.heap.size w w' := by
  obtain ⟨i0, hi, hz0, hz1, hz2⟩ := info_parts info90
  have hlen := h.len
  have hsz : (⟨out.toArray⟩ : ByteArray).size = out.length := by simp [ByteArray.size]
  go_enter Tryz.func34, Tryz.ntmps34
  go_wp2_with fail
  change Code.wp _ _ _ _ (w.iter ⟨out.toArray⟩ 0)
  have hS0 : IS w ⟨out.toArray⟩ 0 (.slice none 0 0) [] (w.iter ⟨out.toArray⟩ 0) := ⟨(Below.refl _ _).alloc (Nat.le_refl _) _, World.iter_heap w _ 0, World.ownsRow_nil _ _ _ _⟩
  generalize w.iter ⟨out.toArray⟩ 0 = w1 at hS0
  go_loopg [0, 5] cs.length (fun kq a v wi => ∃ n : Nat, n + kq = cs.length ∧ a = .string ⟨(rawAt raw n).toArray⟩ ∧ IS w ⟨out.toArray⟩ (3 * n) v (itemsOf raw (cs.take n)) wi)
  case atStart => exact ⟨0, by omega, rfl, hS0⟩
  case round =>
    obtain ⟨n, hn, rfl, hS⟩ := hrel
    by_cases hlt : n < cs.length
    · obtain ⟨rn, hd1, hd2, hd3⟩ := h.decode n hlt
      have hnx : ∀ ty, (Instr.next (.pointer (some ⟨w.heap.size, 0, none⟩)) true ty).run Tryz.prog wr = _ := fun ty => run_next_any_at wr w.heap.size ⟨out.toArray⟩ (3 * n) ty hS.it (by omega)
      rw [hd1] at hnx
      have hS2 := hS.next (3 * n + 3)
      simp only at hnx
      generalize wr.iterAt w.heap.size ⟨out.toArray⟩ (3 * n + 3) = W1 at hnx hS2
      have hsn : itemsOf raw (cs.take (n + 1)) = itemsOf raw (cs.take n) ++ [(rawAt raw n, cs[n])] := by
        rw [List.take_succ_eq_append_getElem hlt, itemsOf_snoc, List.length_take, Nat.min_eq_left (by omega)]
      have HS := Lib.hid hsn
      have hll : (itemsOf raw (cs.take n)).length ≤ 1000 := by rw [itemsOf_len, List.length_take]; omega
      generalize itemsOf raw (cs.take n) = L at hS2 HS hll
      generalize cs[n] = c at hd2 HS
      generalize rawAt raw n = ra at HS ⊢
      have hszW := hS2.lt
      have hn1 : n + gk ≤ cs.length := by omega
      have hn2 : cs.length ≤ n + gk := by omega
      have HN := Lib.hid hn
      have HL := Lib.hid hlen
      have HZ := Lib.hid hsz
      clear hsn hS hd1 hn hlen hsz h
      go_wp2_with (at_builtin; refine wpList_append_own _ rfl (.tmp 13) (.tmp 18) 38 rfl (w.heap.size + 1) 90 i0 (.agg #[.string ⟨#[]⟩, .string ⟨#[]⟩]) 2 32 Tryz.underlying38 hi hz0 hz1 hz2 rfl (by decide) _ L.length (cellsI L) rfl (hS2.row.alloc _) ⟨W1.heap.size, 0, none⟩ 1 1 [.string ⟨ra.toArray⟩, .string ⟨c.toArray⟩] rfl rfl (two_newT 90 W1 _ _) (two_strs _ _) (by unfold maxLen; omega) (by omega) (by simp; omega) ?_)
      intro v' w2 hown' hgrow _
      have hS3 := hS2.append hown' hgrow
      clear hown' hgrow hS2 hnx
      go_wp2_with fail
      go_roundg (gk - 1)
      case rel => exact ⟨n + 1, by omega, by simp [rawAt], by rw [HS.out]; exact hS3⟩
      case measure => omega
    · have hn1 : n = cs.length := by omega
      have hnx : ∀ ty, (Instr.next (.pointer (some ⟨w.heap.size, 0, none⟩)) true ty).run Tryz.prog wr = _ := fun ty => run_next_end_at wr w.heap.size ⟨out.toArray⟩ (3 * n) ty hS.it (by omega)
      have e : cs.take n = cs := by rw [hn1, List.take_of_length_le (Nat.le_refl _)]
      rw [e] at hS
      clear e hlen hsz h hn1 hn
      go_wp2_with fail
      go_ret
      exact ⟨_, rfl, row_base hS.row (by omega), hS.below⟩
end Go.Proofs.YtmnbhjijphlanaaGreatDoor
