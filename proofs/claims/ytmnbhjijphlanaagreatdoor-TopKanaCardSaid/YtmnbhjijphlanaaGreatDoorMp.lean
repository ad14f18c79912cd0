/-
  Maps that the program makes, told by association lists: what a look-up, a store and a range do to them. Over any program.
-/
import Derived.Maps.RangeWalk
import Derived.Maps.RangeRun
import Derived.WalkKit
import Derived.Test.YtmnbhjijphlanaaGreatDoorPure
namespace Go.Proofs.YtmnbhjijphlanaaGreatDoor.Mp
open Go Go.RowKit
open Al (get put)

def fnd {K : Type} [DecidableEq K] (k : K) : List (K × Value) → Nat → Option (Nat × Value)
  | [], _ => none
  | x :: r, i => if x.1 = k then some (i, x.2) else fnd k r (i + 1)

/-- `f` lays keys of type K as values of the map's key type: a look-up finds the key that is equal -/
structure KeyBy {K : Type} [DecidableEq K] (P : Program) (kt : TypeId) (f : K → Value) : Prop where
  check : ∀ em k (w : World), (Instr.checkKey em 10000 kt (f k)).run P w = .ok () w
  find : ∀ (es : List MapEntry) (l : List (K × Value)) (k : K) (w : World), es.map (fun e => (e.key, e.val)) = l.map (fun x => (f x.1, x.2)) → (Instr.findKey kt (f k) es).run P w = .ok (fnd k l 0) w
  same : ∀ k, Instr.sameBits 10000 (f k) (f k) = true

def strV (l : List UInt8) : Value := .string ⟨l.toArray⟩
theorem str_beq (a b : List UInt8) : ((⟨a.toArray⟩ : ByteArray) == ⟨b.toArray⟩) = decide (a = b) := by
  rw [Bool.eq_iff_iff, MapKept.bytes_beq]
  simp
theorem str_eta (s : ByteArray) : (⟨s.data.toList.toArray⟩ : ByteArray) = s := by simp
theorem strV_eta (s : ByteArray) : Value.string s = strV s.data.toList := by simp [strV]

theorem findNow_str (k : List UInt8) : ∀ (es : List MapEntry) (l : List (List UInt8 × Value)) (i : Nat), es.map (fun e => (e.key, e.val)) = l.map (fun x => (strV x.1, x.2)) → Instr.findNow .string (strV k) es i = some (fnd k l i)
  | [], [], _, _ => rfl
  | [], _ :: _, _, h => by simp at h
  | _ :: _, [], _, h => by simp at h
  | e :: es, x :: l, i, h => by
    simp only [List.map_cons, List.cons.injEq, Prod.mk.injEq] at h
    obtain ⟨⟨h1, h2⟩, h3⟩ := h
    unfold Instr.findNow fnd
    rw [h1]
    simp only [strV, Instr.sameNow, str_beq]
    by_cases hk : k = x.1
    · simp [hk, h2]
    · have := findNow_str k es l (i + 1) h3
      simp only [strV] at this
      rw [if_neg (Ne.symm hk)]
      simp [hk, this]

theorem keyBy_str {P : Program} {kt : TypeId} (h : P.underlying kt = some .string) : KeyBy P kt strV where
  check em k w := MapKept.run_checkKey (k := strV k) h (by simp [MapKept.IsKey, strV]) em 9999
  find es l k w he := MapKept.run_findKey h (findNow_str k es l 0 he)
  same k := by simp [strV, Instr.sameBits, str_beq]

/-- the block is a map that holds just these entries, in this order -/
def MapIs (w : World) (b : Nat) (l : List (Value × Value)) : Prop :=
  ∃ es clock, w.heap[b]? = some (.map es clock) ∧ es.toList.map (fun e => (e.key, e.val)) = l ∧ (es.toList.map (·.born)).Nodup ∧ ∀ e ∈ es.toList, e.born < clock

theorem mapIs_made (w : World) : MapIs (w.alloc (.map #[] 0)) w.heap.size [] := ⟨#[], 0, (MapKept.heap_alloc w _).1, rfl, by simp, by simp⟩
theorem MapIs.of_block {w w' : World} {b : Nat} {l : List (Value × Value)} (h : MapIs w b l) (hb : w'.heap[b]? = w.heap[b]?) : MapIs w' b l := by
  obtain ⟨es, clock, h1, h2⟩ := h
  exact ⟨es, clock, hb.trans h1, h2⟩
theorem MapIs.lt {w : World} {b : Nat} {l : List (Value × Value)} (h : MapIs w b l) : b < w.heap.size := by
  obtain ⟨es, clock, h1, _⟩ := h
  exact (Array.getElem?_eq_some_iff.1 h1).1
theorem MapIs.below {w w' : World} {b B : Nat} {l : List (Value × Value)} (h : MapIs w b l) (hb : Below B w w') (hB : b < B) : MapIs w' b l := h.of_block (hb.block b hB)
theorem MapIs.grown {w w' : World} {b : Nat} {row : Option Nat} {l : List (Value × Value)} (h : MapIs w b l) (hg : w.grownBy w' row) (hne : some b ≠ row) : MapIs w' b l := h.of_block (hg.block b h.lt hne)

section
variable {K V : Type} [DecidableEq K] {P : Program} {kt et t : TypeId} {f : K → Value} {g : V → Value}
def ent (f : K → Value) (g : V → Value) (m : List (K × V)) : List (Value × Value) := m.map (fun x => (f x.1, g x.2))

theorem fnd_get (g : V → Value) (k : K) : ∀ (m : List (K × V)) (i : Nat), (fnd k (m.map (fun x => (x.1, g x.2))) i).map (·.2) = (get m k).map g
  | [], _ => rfl
  | x :: m, i => by
    rw [Al.get_cons]
    simp only [List.map_cons, fnd]
    by_cases h : x.1 = k
    · simp [h]
    · rw [if_neg h, if_neg h]; exact fnd_get g k m (i + 1)

theorem fnd_lt (k : K) : ∀ (l : List (K × Value)) (i j : Nat) (v : Value), fnd k l i = some (j, v) → i ≤ j ∧ j < i + l.length
  | [], _, _, _, h => by simp [fnd] at h
  | x :: l, i, j, v, h => by
    unfold fnd at h
    by_cases hk : x.1 = k
    · rw [if_pos hk] at h; cases h; simp
    · rw [if_neg hk] at h
      have := fnd_lt k l (i + 1) j v h
      simp; omega

theorem MapIs.lookup {w : World} {b : Nat} {m : List (K × V)} (h : MapIs w b (ent f g m)) (L : KeyBy P kt f) (ht : P.underlying t = some (.map kt et)) {z : Value} (hz : (zeroValue et).run P w = .ok z w) (k : K) (ok : Bool) :
    (Instr.lookup t (.map (some b)) (f k) ok).run P w = .ok (if ok then .tuple #[((get m k).map g).getD z, .bool (get m k).isSome] else ((get m k).map g).getD z) w := by
  obtain ⟨es, clock, hb, he, _⟩ := h
  have hf := L.find es.toList (m.map (fun x => (x.1, g x.2))) k w (by rw [he]; simp [ent, Function.comp_def])
  have hg := fnd_get g k m 0
  cases hr : fnd k (m.map (fun x => (x.1, g x.2))) 0 with
  | none =>
    rw [hr] at hf hg
    have h0 : get m k = none := by cases hm : get m k <;> simp [hm] at hg ⊢
    simp [Instr.lookup, run_underlying ht, MapKept.run_getObj_map hb, L.check, hf, hz, h0, Result.andThen]
  | some x =>
    rw [hr] at hf hg
    obtain ⟨i, v⟩ := x
    obtain ⟨y, hy, rfl⟩ : ∃ y, get m k = some y ∧ v = g y := by
      cases hm : get m k with
      | none => simp [hm] at hg
      | some y => exact ⟨y, rfl, by simpa [hm] using hg⟩
    simp [Instr.lookup, run_underlying ht, MapKept.run_getObj_map hb, L.check, hf, hy, Result.andThen]

theorem run_keyStays {w : World} {k : Value} (h : Instr.sameBits 10000 k k = true) : (Instr.keyThatStays k k).run P w = .ok k w := by simp [Instr.keyThatStays, h]

theorem fnd_put (f : K → Value) (g : V → Value) (k : K) (x : V) : ∀ (m : List (K × V)) (es : List MapEntry) (i : Nat), es.map (fun e => (e.key, e.val)) = ent f g m →
    match fnd k (m.map (fun x => (x.1, g x.2))) i with
    | some (j, _) => ∃ hj : j - i < es.length, i ≤ j ∧ (es[j - i]).key = f k ∧ (es.set (j - i) { es[j - i] with key := f k, val := g x }).map (fun e => (e.key, e.val)) = ent f g (put m k x)
    | none => ent f g (put m k x) = ent f g m ++ [(f k, g x)]
  | [], es, _, h => by simp [fnd, ent, put]
  | y :: m, [], _, h => by simp [ent] at h
  | y :: m, e :: es, i, h => by
    have h0 := h
    simp only [ent, List.map_cons, List.cons.injEq, Prod.mk.injEq] at h
    obtain ⟨⟨h1, h2⟩, h3⟩ := h
    simp only [List.map_cons, fnd]
    by_cases hk : y.1 = k
    · rw [if_pos hk]
      refine ⟨by simp, Nat.le_refl _, by simp [h1, hk], ?_⟩
      simp only [Nat.sub_self, List.set_cons_zero, List.map_cons, put, if_pos hk, ent, h3]
    · rw [if_neg hk]
      have ih := fnd_put f g k x m es (i + 1) h3
      cases hr : fnd k (m.map (fun x => (x.1, g x.2))) (i + 1) with
      | none =>
        rw [hr] at ih
        simp only [ent, put, if_neg hk, List.map_cons, List.cons_append, List.cons.injEq, true_and] at ih ⊢
        exact ih
      | some z =>
        obtain ⟨j, v⟩ := z
        rw [hr] at ih
        obtain ⟨hj, hle, hkey, hset⟩ := ih
        have e1 : j - i = (j - (i + 1)) + 1 := by omega
        refine ⟨by simp; omega, by omega, ?_, ?_⟩
        · simp only [e1, List.getElem_cons_succ]; exact hkey
        · simp only [e1, List.getElem_cons_succ, List.set_cons_succ, List.map_cons, put, if_neg hk, ent]
          simp only [ent] at hset
          rw [hset, h1, h2]

theorem MapIs.update {w : World} {b : Nat} {m : List (K × V)} (h : MapIs w b (ent f g m)) (L : KeyBy P kt f) (ht : P.underlying t = some (.map kt et)) (k : K) (x : V) :
    ∃ w', (Instr.mapUpdate t (.map (some b)) (f k) (g x)).run P w = .ok () w' ∧ MapIs w' b (ent f g (put m k x)) ∧ w.grownBy w' (some b) := by
  obtain ⟨es, clock, hb, he, hn, hlt⟩ := h
  have hf := L.find es.toList (m.map (fun x => (x.1, g x.2))) k w (by rw [he]; simp [ent, Function.comp_def])
  have hp := fnd_put f g k x m es.toList 0 he
  have hgr : ∀ es' c, w.grownBy { w with heap := w.heap.setIfInBounds b (.map es' c) } (some b) := fun es' c => ⟨rfl, rfl, rfl, by simp, fun i _ hi => by
    simp only [Array.getElem?_setIfInBounds]
    rw [if_neg (fun e => hi (by rw [e]))]⟩
  have hbl : b < w.heap.size := (Array.getElem?_eq_some_iff.1 hb).1
  cases hr : fnd k (m.map (fun x => (x.1, g x.2))) 0 with
  | none =>
    rw [hr] at hf hp
    refine ⟨_, by simp [Instr.mapUpdate, run_underlying ht, MapKept.run_getObj_map hb, L.check, hf, MapKept.run_setObj_map _ hb, Result.andThen]; rfl, ?_, hgr _ _⟩
    refine ⟨es.push { key := f k, val := g x, born := clock }, clock + 1, by simp [hbl], ?_, ?_, ?_⟩
    · simp only [Array.toList_push, List.map_append, he, List.map_cons, List.map_nil]
      exact hp.symm
    · simp only [Array.toList_push, List.map_append, List.map_cons, List.map_nil]
      refine List.nodup_append.2 ⟨hn, by simp, fun a ha c hc => ?_⟩
      obtain ⟨e, hemem, rfl⟩ := List.mem_map.1 ha
      have := hlt e hemem
      rw [List.mem_singleton.1 hc]; omega
    · intro e hemem
      simp only [Array.toList_push, List.mem_append, List.mem_singleton] at hemem
      rcases hemem with hemem | rfl
      · have := hlt e hemem; omega
      · exact Nat.lt_succ_self _
  | some z =>
    obtain ⟨j, v⟩ := z
    rw [hr] at hf hp
    obtain ⟨hj, _, hkey, hset⟩ := hp
    simp only [Nat.sub_zero, Array.length_toList, Array.getElem_toList] at hj hkey hset
    have hmod : es.modify j (fun e => { e with key := f k, val := g x }) = es.setIfInBounds j { es[j] with key := f k, val := g x } := by
      apply Array.ext_getElem?
      intro i
      simp only [Array.getElem?_modify, Array.getElem?_setIfInBounds]
      by_cases hij : j = i
      · subst hij; simp [hj]
      · simp [hij]
    refine ⟨_, by simp [Instr.mapUpdate, run_underlying ht, MapKept.run_getObj_map hb, L.check, hf, hj, hkey, run_keyStays (L.same k), MapKept.run_setObj_map _ hb, Result.andThen]; rfl, ?_, hgr _ _⟩
    refine ⟨es.modify j (fun e => { e with key := f k, val := g x }), clock, by simp [hbl], ?_, ?_, ?_⟩
    · rw [hmod, Array.toList_setIfInBounds]; exact hset
    · have e1 : (es.modify j (fun e => { e with key := f k, val := g x })).toList.map (·.born) = es.toList.map (·.born) := by
        rw [hmod, Array.toList_setIfInBounds, List.map_set]
        refine List.ext_getElem (by simp) (fun i h1 h2 => ?_)
        simp only [List.getElem_set, List.getElem_map, Array.getElem_toList]
        by_cases hij : j = i
        · subst hij; simp
        · simp [hij]
      rw [e1]; exact hn
    · intro e hemem
      rw [hmod, Array.toList_setIfInBounds] at hemem
      rcases List.mem_or_eq_of_mem_set hemem with h' | rfl
      · exact hlt e h'
      · exact hlt es[j] (by simp)
end

/-- block r is an iterator over the map in block b; these of its entries are still to come (in whatever order) -/
def Iter (w : World) (r b : Nat) (left : List (Value × Value)) : Prop :=
  ∃ es clock seen, w.heap[b]? = some (.map es clock) ∧ (es.toList.map (·.born)).Nodup ∧ (∀ e ∈ es.toList, e.born < clock) ∧ w.heap[r]? = some (.mapIter (some b) clock seen clock) ∧ left = (es.toList.filter (fun e => !seen.contains e.born)).map (fun e => (e.key, e.val))

theorem Iter.of_blocks {w w' : World} {r b : Nat} {l : List (Value × Value)} (h : Iter w r b l) (hb : w'.heap[b]? = w.heap[b]?) (hr : w'.heap[r]? = w.heap[r]?) : Iter w' r b l := by
  obtain ⟨es, clock, seen, h1, h2, h3, h4, h5⟩ := h
  exact ⟨es, clock, seen, hb.trans h1, h2, h3, hr.trans h4, h5⟩
theorem Iter.lt {w : World} {r b : Nat} {l : List (Value × Value)} (h : Iter w r b l) : b < w.heap.size ∧ r < w.heap.size := by
  obtain ⟨es, clock, seen, h1, _, _, h4, _⟩ := h
  exact ⟨(Array.getElem?_eq_some_iff.1 h1).1, (Array.getElem?_eq_some_iff.1 h4).1⟩
theorem Iter.grown {w w' : World} {r b : Nat} {row : Option Nat} {l : List (Value × Value)} (h : Iter w r b l) (hg : w.grownBy w' row) (hb : some b ≠ row) (hr : some r ≠ row) : Iter w' r b l :=
  h.of_blocks (hg.block b h.lt.1 hb) (hg.block r h.lt.2 hr)

theorem MapIs.range {P : Program} {kt et t : TypeId} {w : World} {b : Nat} {l : List (Value × Value)} (h : MapIs w b l) (ht : P.underlying t = some (.map kt et)) :
    ∃ w', (Instr.range t (.map (some b))).run P w = .ok (.pointer (some ⟨w.heap.size, 0, none⟩)) w' ∧ Iter w' w.heap.size b l ∧ w.grownBy w' none ∧ w'.heap.size = w.heap.size + 1 := by
  have hlt := h.lt
  obtain ⟨es, clock, hb, he, hn, hl⟩ := h
  refine ⟨w.alloc (.mapIter (some b) clock #[] clock), by simp [Instr.range, run_underlying ht, MapKept.run_getObj_map hb, Result.andThen], ?_, World.grownBy_alloc w _ none, by simp⟩
  refine ⟨es, clock, #[], (Below.heap_alloc w _ b hlt).trans hb, hn, hl, (MapKept.heap_alloc w _).1, ?_⟩
  rw [← he, List.filter_eq_self.2 (fun _ _ => by simp)]

theorem left_step (es : List MapEntry) (seen : Array Nat) (e : MapEntry) (hn : (es.map (·.born)).Nodup) (he : e ∈ es.filter (fun x => !seen.contains x.born)) :
    ∃ l1 l2, es.filter (fun x => !seen.contains x.born) = l1 ++ e :: l2 ∧ es.filter (fun x => !(seen.push e.born).contains x.born) = l1 ++ l2 := by
  have e1 : es.filter (fun x => !(seen.push e.born).contains x.born) = (es.filter (fun x => !seen.contains x.born)).filter (fun x => !(x.born == e.born)) := by
    rw [List.filter_filter]
    refine List.filter_congr (fun x _ => ?_)
    rw [Bool.eq_iff_iff]
    simp only [Array.contains_push, Bool.not_eq_true', Bool.or_eq_false_iff, Bool.and_eq_true, beq_eq_false_iff_ne]
    constructor
    · rintro ⟨h1, h2⟩; exact ⟨h2, h1⟩
    · rintro ⟨h1, h2⟩; exact ⟨h2, h1⟩
  have hn' : ((es.filter (fun x => !seen.contains x.born)).map (·.born)).Nodup := hn.sublist ((List.filter_sublist).map _)
  generalize es.filter (fun x => !seen.contains x.born) = L at he e1 hn'
  obtain ⟨l1, l2, rfl⟩ := List.append_of_mem he
  refine ⟨l1, l2, rfl, ?_⟩
  rw [e1, List.filter_append, List.filter_cons]
  simp only [beq_self_eq_true, Bool.not_true, Bool.false_eq_true, if_false]
  simp only [List.map_append, List.map_cons, List.nodup_append, List.nodup_cons, List.mem_cons] at hn'
  obtain ⟨_, ⟨h2, _⟩, h3⟩ := hn'
  congr 1
  · refine List.filter_eq_self.2 (fun x hx => ?_)
    simpa using h3 _ (List.mem_map_of_mem hx) _ (.inl rfl)
  · refine List.filter_eq_self.2 (fun x hx => ?_)
    have : x.born ≠ e.born := fun h => h2 (by rw [← h]; exact List.mem_map_of_mem hx)
    simpa using this

theorem set_other (w : World) (r : Nat) (o : Obj) {i : Nat} (h : i ≠ r) : (ChangeMaps.setBlock w r o).heap[i]? = w.heap[i]? := by
  simp only [ChangeMaps.setBlock, Array.getElem?_setIfInBounds]
  rw [if_neg (Ne.symm h)]
theorem set_same {w : World} (r : Nat) (o : Obj) (h : r < w.heap.size) : (ChangeMaps.setBlock w r o).heap[r]? = some o := by
  simp [ChangeMaps.setBlock, h]

theorem Iter.next {P : Program} {w : World} {r b : Nat} {left : List (Value × Value)} (h : Iter w r b left) (ty : TypeId) :
    (left = [] ∧ (Instr.next (.pointer (some ⟨r, 0, none⟩)) false ty).run P w = .ok (.tuple #[.bool false]) w) ∨
    ∃ l1 k v l2 w', left = l1 ++ (k, v) :: l2 ∧ (Instr.next (.pointer (some ⟨r, 0, none⟩)) false ty).run P w = .ok (.tuple #[.bool true, k, v]) w' ∧ Iter w' r b (l1 ++ l2) ∧ w.grownBy w' (some r) ∧ w'.heap.size = w.heap.size ∧
      (Instr.entry (.pointer (some ⟨r, 0, none⟩))).run P w' = .ok (.tuple #[k, v]) w' := by
  have hlt := h.lt
  obtain ⟨es, clock, seen, hb, hn, hl, hr, rfl⟩ := h
  have hne : b ≠ r := by rintro rfl; rw [hb] at hr; cases hr
  rcases run_next_at (P := P) w ty r b clock clock seen es clock hr hb hl (Nat.le_refl _) with ⟨h0, hrun⟩ | ⟨e, he, w1, hw1, hrun⟩
  · left
    refine ⟨?_, hrun⟩
    have : (leftOf es seen).toList = [] := by simpa using h0
    simp only [leftOf, Array.toList_filter] at this
    rw [this]; rfl
  · right
    have he' : e ∈ es.toList.filter (fun x => !seen.contains x.born) := by simpa [leftOf, Array.toList_filter] using he
    obtain ⟨l1, l2, e1, e2⟩ := left_step es.toList seen e hn he'
    have hb1 : w1.heap = w.heap := by rcases hw1 with rfl | rfl <;> rfl
    have hbb : (ChangeMaps.setBlock w1 r (.mapIter (some b) clock (seen.push e.born) clock)).heap[b]? = some (.map es clock) := by
      rw [set_other _ _ _ hne, hb1]; exact hb
    have hrr : (ChangeMaps.setBlock w1 r (.mapIter (some b) clock (seen.push e.born) clock)).heap[r]? = some (.mapIter (some b) clock (seen.push e.born) clock) :=
      set_same _ _ (by rw [hb1]; exact hlt.2)
    refine ⟨l1.map (fun e => (e.key, e.val)), e.key, e.val, l2.map (fun e => (e.key, e.val)), _, by rw [e1]; simp, hrun, ?_, ?_, by simp [ChangeMaps.setBlock, hb1], ?_⟩
    · exact ⟨es, clock, seen.push e.born, hbb, hn, hl, hrr, by rw [e2]; simp⟩
    · refine ⟨?_, ?_, ?_, by simp [ChangeMaps.setBlock, hb1], fun i _ hi => ?_⟩
      · rcases hw1 with rfl | rfl <;> rfl
      · rcases hw1 with rfl | rfl <;> rfl
      · rcases hw1 with rfl | rfl <;> rfl
      · rw [set_other _ _ _ (fun e => hi (by rw [e])), hb1]
    · exact run_entry_at _ r b clock seen es clock e hrr hbb (List.mem_filter.1 he').1 hn

section
variable {K V : Type} [DecidableEq K] {P : Program} (w : World) {ops : Array Oper} {rest : List Oper} {o : Oper} {a : Act} {Q : Exit → Act → World → Prop}
/-- `m[k] = x`, at the operation -/
theorem wpList_update {kt et : TypeId} {f : K → Value} {g : V → Value} (hg : o.guard = none) (m x v : Operand) (t : TypeId) (hop : o.op = Op.mapUpdate t m x v)
    (L : KeyBy P kt f) (ht : P.underlying t = some (.map kt et)) (b : Nat) (l : List (K × V)) (hm : a.eval m = .map (some b)) (h : MapIs w b (ent f g l)) (key : K) (val : V) (hx : a.eval x = f key) (hv : a.eval v = g val)
    (hK : ∀ w', MapIs w' b (ent f g (put l key val)) → w.grownBy w' (some b) → wpList P ops Q rest (a.put o.dst undef) w') : wpList P ops Q (o :: rest) a w := by
  refine wpList_plain hg fun K' hK' => ?_
  obtain ⟨w', hrun, r1, r2⟩ := h.update L ht key val
  unfold Oper.wp
  simp [execOp, hop, hm, hx, hv, hrun, Result.andThen]
  exact hK' _ _ (hK w' r1 r2)
/-- .. in a literal -/
theorem wpList_insert {kt et : TypeId} {f : K → Value} {g : V → Value} (hg : o.guard = none) (m x v : Operand) (t : TypeId) (hop : o.op = Op.insert t m x v)
    (L : KeyBy P kt f) (ht : P.underlying t = some (.map kt et)) (b : Nat) (l : List (K × V)) (hm : a.eval m = .map (some b)) (h : MapIs w b (ent f g l)) (key : K) (val : V) (hx : a.eval x = f key) (hv : a.eval v = g val)
    (hK : ∀ w', MapIs w' b (ent f g (put l key val)) → w.grownBy w' (some b) → wpList P ops Q rest (a.put o.dst undef) w') : wpList P ops Q (o :: rest) a w := by
  refine wpList_plain hg fun K' hK' => ?_
  obtain ⟨w', hrun, r1, r2⟩ := h.update L ht key val
  unfold Oper.wp
  simp [execOp, hop, hm, hx, hv, hrun, Result.andThen]
  exact hK' _ _ (hK w' r1 r2)
/-- `m[k]`, `m[k]` with ok -/
theorem wpList_lookup {kt et : TypeId} {f : K → Value} {g : V → Value} (hg : o.guard = none) (m x : Operand) (t : TypeId) (ok : Bool) (hop : o.op = Op.lookup t m x ok)
    (L : KeyBy P kt f) (ht : P.underlying t = some (.map kt et)) (b : Nat) (l : List (K × V)) (hm : a.eval m = .map (some b)) (h : MapIs w b (ent f g l)) (z : Value) (hz : (zeroValue et).run P w = .ok z w) (key : K) (hx : a.eval x = f key)
    (hK : wpList P ops Q rest (a.put o.dst (if ok then .tuple #[((get l key).map g).getD z, .bool (get l key).isSome] else ((get l key).map g).getD z)) w) : wpList P ops Q (o :: rest) a w := by
  refine wpList_plain hg fun K' hK' => ?_
  unfold Oper.wp
  simp only [execOp, hop, hm, hx, Sem.run_bind, h.lookup L ht hz key ok, Result.andThen]
  exact hK' _ _ hK
theorem wpList_found {kt et : TypeId} {f : K → Value} {g : V → Value} (hg : o.guard = none) (m x : Operand) (t : TypeId) (hop : o.op = Op.lookup t m x true)
    (L : KeyBy P kt f) (ht : P.underlying t = some (.map kt et)) (b : Nat) (l : List (K × V)) (hm : a.eval m = .map (some b)) (h : MapIs w b (ent f g l)) (z : Value) (hz : (zeroValue et).run P w = .ok z w) (key : K) (hx : a.eval x = f key) (val : V) (hr : get l key = some val) (gv : Value) (hgv : g val = gv)
    (hK : wpList P ops Q rest (a.put o.dst (.tuple #[gv, .bool true])) w) : wpList P ops Q (o :: rest) a w :=
  wpList_lookup w hg m x t true hop L ht b l hm h z hz key hx (by rw [hr, ← hgv] at *; exact hK)
theorem wpList_absent {kt et : TypeId} {f : K → Value} {g : V → Value} (hg : o.guard = none) (m x : Operand) (t : TypeId) (hop : o.op = Op.lookup t m x true)
    (L : KeyBy P kt f) (ht : P.underlying t = some (.map kt et)) (b : Nat) (l : List (K × V)) (hm : a.eval m = .map (some b)) (h : MapIs w b (ent f g l)) (z : Value) (hz : (zeroValue et).run P w = .ok z w) (key : K) (hx : a.eval x = f key) (hr : get l key = none)
    (hK : wpList P ops Q rest (a.put o.dst (.tuple #[z, .bool false])) w) : wpList P ops Q (o :: rest) a w :=
  wpList_lookup w hg m x t true hop L ht b l hm h z hz key hx (by rw [hr]; exact hK)
theorem wpList_value {kt et : TypeId} {f : K → Value} {g : V → Value} (hg : o.guard = none) (m x : Operand) (t : TypeId) (hop : o.op = Op.lookup t m x false)
    (L : KeyBy P kt f) (ht : P.underlying t = some (.map kt et)) (b : Nat) (l : List (K × V)) (hm : a.eval m = .map (some b)) (h : MapIs w b (ent f g l)) (z : Value) (hz : (zeroValue et).run P w = .ok z w) (key : K) (hx : a.eval x = f key) (val : V) (hr : get l key = some val) (gv : Value) (hgv : g val = gv)
    (hK : wpList P ops Q rest (a.put o.dst gv) w) : wpList P ops Q (o :: rest) a w :=
  wpList_lookup w hg m x t false hop L ht b l hm h z hz key hx (by rw [hr, ← hgv] at *; exact hK)
theorem wpList_range {kt et : TypeId} (hg : o.guard = none) (m : Operand) (t : TypeId) (hop : o.op = Op.range t m) (ht : P.underlying t = some (.map kt et)) (b : Nat) (l : List (Value × Value)) (hm : a.eval m = .map (some b)) (h : MapIs w b l)
    (hK : ∀ w', Iter w' w.heap.size b l → w.grownBy w' none → w'.heap.size = w.heap.size + 1 → wpList P ops Q rest (a.put o.dst (.pointer (some ⟨w.heap.size, 0, none⟩))) w') : wpList P ops Q (o :: rest) a w := by
  refine wpList_plain hg fun K' hK' => ?_
  obtain ⟨w', hrun, r1, r2, r3⟩ := h.range ht
  unfold Oper.wp
  simp [execOp, hop, hm, hrun, Result.andThen]
  exact hK' _ _ (hK w' r1 r2 r3)
theorem wpList_next (hg : o.guard = none) (it : Operand) (hop : o.op = Op.next it false) (r b : Nat) (left : List (Value × Value)) (hit : a.eval it = .pointer (some ⟨r, 0, none⟩)) (h : Iter w r b left)
    (hDone : left = [] → wpList P ops Q rest (a.put o.dst (.tuple #[.bool false])) w)
    (hMore : ∀ l1 k v l2 w', left = l1 ++ (k, v) :: l2 → Iter w' r b (l1 ++ l2) → w.grownBy w' (some r) → w'.heap.size = w.heap.size → (Instr.entry (.pointer (some ⟨r, 0, none⟩))).run P w' = .ok (.tuple #[k, v]) w' → wpList P ops Q rest (a.put o.dst (.tuple #[.bool true, k, v])) w') :
    wpList P ops Q (o :: rest) a w := by
  refine wpList_plain hg fun K' hK' => ?_
  unfold Oper.wp
  rcases h.next (P := P) o.type with ⟨h0, hrun⟩ | ⟨l1, k, v, l2, w', e, hrun, h1, h2, h3, h4⟩
  · simp [execOp, hop, hit, hrun, Result.andThen]
    exact hK' _ _ (hDone h0)
  · simp [execOp, hop, hit, hrun, Result.andThen]
    exact hK' _ _ (hMore l1 k v l2 w' e h1 h2 h3 h4)
end
end Go.Proofs.YtmnbhjijphlanaaGreatDoor.Mp
