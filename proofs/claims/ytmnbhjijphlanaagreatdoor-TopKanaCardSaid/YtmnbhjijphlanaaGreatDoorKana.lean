/-
  The kana that the rules write, keys for each, and texts of such kana: plain.
-/
import Derived.Test.YtmnbhjijphlanaaGreatDoorPure
import Derived.Lib.ValidLaws
import Derived.Lib.RuneCount
namespace Go.Proofs.YtmnbhjijphlanaaGreatDoor.Kp
open Go Go.Lib

def cut3 : Bs → List Bs
  | a :: b :: c :: r => [a, b, c] :: cut3 r
  | _ => []
def addK (out : List Bs) (c : Bs) : List Bs := if out.contains c then out else out ++ [c]
/-- the kana in the order in which the rules bring them, and keys for each -/
def kanaKeys : List (Bs × Bs) :=
  [([227, 128, 129], [44]),
   ([227, 131, 188], [45]),
   ([227, 128, 130], [46]),
   ([227, 129, 130], [97]),
   ([227, 129, 176], [98, 97]),
   ([227, 129, 163], [120, 116, 117]),
   ([227, 129, 185], [98, 101]),
   ([227, 129, 179], [98, 105]),
   ([227, 129, 188], [98, 111]),
   ([227, 129, 182], [98, 117]),
   ([227, 130, 131], [120, 121, 97]),
   ([227, 130, 135], [120, 121, 111]),
   ([227, 130, 133], [120, 121, 117]),
   ([227, 129, 161], [116, 105]),
   ([227, 129, 135], [120, 101]),
   ([227, 129, 160], [100, 97]),
   ([227, 129, 167], [100, 101]),
   ([227, 129, 162], [100, 105]),
   ([227, 129, 169], [100, 111]),
   ([227, 129, 165], [100, 117]),
   ([227, 129, 136], [101]),
   ([227, 129, 181], [102, 117]),
   ([227, 129, 129], [120, 97]),
   ([227, 129, 131], [120, 105]),
   ([227, 129, 137], [120, 111]),
   ([227, 129, 140], [103, 97]),
   ([227, 129, 146], [103, 101]),
   ([227, 129, 142], [103, 105]),
   ([227, 129, 148], [103, 111]),
   ([227, 129, 144], [103, 117]),
   ([227, 129, 175], [104, 97]),
   ([227, 129, 184], [104, 101]),
   ([227, 129, 178], [104, 105]),
   ([227, 129, 187], [104, 111]),
   ([227, 129, 132], [105]),
   ([227, 129, 152], [106, 105]),
   ([227, 129, 139], [107, 97]),
   ([227, 129, 145], [107, 101]),
   ([227, 129, 141], [107, 105]),
   ([227, 129, 147], [107, 111]),
   ([227, 129, 143], [107, 117]),
   ([227, 129, 190], [109, 97]),
   ([227, 130, 129], [109, 101]),
   ([227, 129, 191], [109, 105]),
   ([227, 130, 130], [109, 111]),
   ([227, 130, 128], [109, 117]),
   ([227, 130, 147], [110, 39]),
   ([227, 129, 170], [110, 97]),
   ([227, 129, 173], [110, 101]),
   ([227, 129, 171], [110, 105]),
   ([227, 129, 174], [110, 111]),
   ([227, 129, 172], [110, 117]),
   ([227, 129, 138], [111]),
   ([227, 129, 177], [112, 97]),
   ([227, 129, 186], [112, 101]),
   ([227, 129, 180], [112, 105]),
   ([227, 129, 189], [112, 111]),
   ([227, 129, 183], [112, 117]),
   ([227, 130, 137], [114, 97]),
   ([227, 130, 140], [114, 101]),
   ([227, 130, 138], [114, 105]),
   ([227, 130, 141], [114, 111]),
   ([227, 130, 139], [114, 117]),
   ([227, 129, 149], [115, 97]),
   ([227, 129, 155], [115, 101]),
   ([227, 129, 151], [115, 105]),
   ([227, 129, 157], [115, 111]),
   ([227, 129, 153], [115, 117]),
   ([227, 129, 159], [116, 97]),
   ([227, 129, 166], [116, 101]),
   ([227, 129, 168], [116, 111]),
   ([227, 129, 164], [116, 117]),
   ([227, 129, 134], [117]),
   ([227, 130, 148], [118, 117]),
   ([227, 130, 143], [119, 97]),
   ([227, 130, 146], [119, 111]),
   ([227, 129, 133], [120, 117]),
   ([227, 130, 132], [121, 97]),
   ([227, 130, 136], [121, 111]),
   ([227, 130, 134], [121, 117]),
   ([227, 129, 150], [122, 97]),
   ([227, 129, 156], [122, 101]),
   ([227, 129, 158], [122, 111]),
   ([227, 129, 154], [122, 117])]
def kanaL : List Bs := kanaKeys.map (·.1)
theorem kana_is : (rules.flatMap (fun r => cut3 r.out)).foldl addK [] = kanaL := by decide +kernel
theorem kana_len : kanaL.length = 84 := by decide +kernel

def feedN : Nat → Bs → Bs → Option (Bs × Bs)
  | 0, _, _ => none
  | _ + 1, p, [] => some ([], p)
  | n + 1, p, k :: ks =>
    if part (p ++ [k]) then feedN n (p ++ [k]) ks
    else match feedN n [] ((resolve (p ++ [k])).2 ++ ks) with
      | some (o, q) => some ((resolve (p ++ [k])).1 ++ o, q)
      | none => none
theorem feedN_sound : ∀ (n : Nat) (p ks o q : Bs), feedN n p ks = some (o, q) → Feeds p ks o q
  | 0, _, _, _, _, h => by cases h
  | n + 1, p, [], o, q, h => by
    simp only [feedN, Option.some.injEq, Prod.mk.injEq] at h
    obtain ⟨rfl, rfl⟩ := h
    exact .nil p
  | n + 1, p, k :: ks, o, q, h => by
    unfold feedN at h
    cases hp : part (p ++ [k]) with
    | true =>
      rw [hp, if_pos rfl] at h
      exact .push hp (feedN_sound n _ _ _ _ h)
    | false =>
      rw [hp, if_neg (by simp)] at h
      split at h
      · rename_i o' q' e
        simp only [Option.some.injEq, Prod.mk.injEq] at h
        obtain ⟨rfl, rfl⟩ := h
        exact .res hp (feedN_sound n _ _ _ _ e)
      · cases h
theorem keys_ok : ∀ e ∈ kanaKeys, feedN 20 [] e.2 = some (e.1, []) ∧ e.2.length ≤ 3 ∧ ∀ c ∈ e.2, c ∈ akeys := by decide +kernel
/-- each kana has keys -/
theorem kana_keys {c : Bs} (h : c ∈ kanaL) : ∃ W, Feeds [] W c [] ∧ W.length ≤ 3 ∧ ∀ b ∈ W, b ∈ akeys := by
  obtain ⟨e, he, rfl⟩ := List.mem_map.1 h
  obtain ⟨h1, h2, h3⟩ := keys_ok e he
  exact ⟨e.2, feedN_sound _ _ _ _ _ h1, h2, h3⟩

theorem kana_facts : ∀ c ∈ kanaL, c.length = 3 ∧ (∀ b ∈ c, isKey b = false) ∧ (decodeL c).2 = 3 ∧ (decodeL c).1 ≠ 65533 ∧ (c.getD 0 0).toNat / 16 = 14 ∧ Utf8.encode (decodeL c).1 = ⟨c.toArray⟩ ∧ (decodeL c).1 < 65536 := by decide +kernel

theorem decodeN_three (n b0 b1 b2 b3 : Nat) (h : b0 / 16 = 14) (hn : 3 ≤ n) : decodeN n b0 b1 b2 b3 = decodeN 3 b0 b1 b2 0 := by
  unfold decodeN
  have e1 : 1 < n := by omega
  have e2 : 2 < n := by omega
  have e3 : ¬ b0 / 8 = 30 := by omega
  have e4 : (1 < 3) = True := by simp
  have e5 : (2 < 3) = True := by simp
  simp only [e1, e2, e3, e4, e5, false_and, if_false, true_and]
theorem decode_kana {c : Bs} (h : c ∈ kanaL) (r : Bs) : decodeL (c ++ r) = ((decodeL c).1, 3) := by
  obtain ⟨h1, -, h3, -, h5, -⟩ := kana_facts c h
  rw [← h3]
  show _ = decodeL c
  rw [decodeL_N, decodeL_N]
  match c, h1 with
  | [x, y, z], _ =>
    simp only [List.cons_append, List.nil_append, List.length_cons, List.length_nil, List.getD_cons_zero, List.getD_cons_succ, List.getD_nil] at h5 ⊢
    rw [decodeN_three _ _ _ _ _ h5 (by omega)]
    rfl

/-- a text of such kana -/
def Kt (l : Bs) (cs : List Bs) : Prop := (∀ c ∈ cs, c ∈ kanaL) ∧ l = cs.flatten
theorem Kt.nil : Kt [] [] := ⟨by simp, rfl⟩
theorem Kt.append {a b : Bs} {cs ds : List Bs} (h : Kt a cs) (h' : Kt b ds) : Kt (a ++ b) (cs ++ ds) :=
  ⟨fun c hc => (List.mem_append.1 hc).elim (h.1 c) (h'.1 c), by rw [h.2, h'.2, List.flatten_append]⟩
theorem Kt.one {c : Bs} (h : c ∈ kanaL) : Kt c [c] := ⟨by simpa using h, by simp⟩
theorem Kt.len {l : Bs} {cs : List Bs} (h : Kt l cs) : l.length = 3 * cs.length := by
  obtain ⟨h1, rfl⟩ := h
  induction cs with
  | nil => rfl
  | cons c cs ih =>
    have e := (kana_facts c (h1 c (by simp))).1
    have := ih (fun d hd => h1 d (by simp [hd]))
    simp only [List.flatten_cons, List.length_append, List.length_cons] at this ⊢
    omega
theorem Kt.noKey {l : Bs} {cs : List Bs} (h : Kt l cs) : ∀ b ∈ l, isKey b = false := by
  obtain ⟨h1, rfl⟩ := h
  intro b hb
  obtain ⟨c, hc, hbc⟩ := List.mem_flatten.1 hb
  exact (kana_facts c (h1 c hc)).2.1 b hbc
theorem Kt.tail {l c : Bs} {cs : List Bs} (h : Kt l (c :: cs)) : Kt cs.flatten cs ∧ c ∈ kanaL ∧ l = c ++ cs.flatten :=
  ⟨⟨fun d hd => h.1 d (by simp [hd]), rfl⟩, h.1 c (by simp), by rw [h.2]; rfl⟩
theorem Kt.valid {l : Bs} {cs : List Bs} (h : Kt l cs) : validD l = true := by
  induction cs generalizing l with
  | nil => rw [h.2]; rfl
  | cons c cs ih =>
    obtain ⟨ht, hc, rfl⟩ := h.tail
    obtain ⟨f1, -, -, f4, -⟩ := kana_facts c hc
    rw [validD_step _ (by intro e; have := congrArg List.length e; simp [f1] at this), decode_kana hc, if_neg (by simp)]
    rw [List.drop_left' f1]
    exact ih ht
theorem count_from (s : ByteArray) : ∀ (cs : List Bs) (pos fuel : Nat), Kt (s.data.toList.drop pos) cs → 3 * cs.length ≤ fuel → runeCountFrom s fuel pos = cs.length
  | [], pos, fuel, h, _ => by
    have e : (s.data.toList.drop pos).length = 0 := by rw [h.2]; rfl
    rw [List.length_drop, Array.length_toList] at e
    exact runeCountFrom_end s fuel pos (by show ¬ pos < s.data.size; omega)
  | c :: cs, pos, fuel, h, hf => by
    have hl := h.len
    rw [List.length_drop, Array.length_toList] at hl
    simp only [List.length_cons] at hl hf
    obtain ⟨ht, hc, he⟩ := h.tail
    have f1 := (kana_facts c hc).1
    obtain ⟨n, rfl⟩ : ∃ n, fuel = n + 1 := ⟨fuel - 1, by omega⟩
    unfold runeCountFrom
    rw [if_pos (show pos < s.size by show pos < s.data.size; omega), ← decodeL_drop, he, decode_kana hc]
    rw [count_from s cs (pos + 3) n (by rw [← List.drop_drop, he, List.drop_left' f1]; exact ht) (by omega)]
    simp; omega
theorem Kt.count {l : Bs} {cs : List Bs} (h : Kt l cs) : runeCount ⟨l.toArray⟩ = cs.length := by
  have hl := h.len
  refine count_from _ cs 0 _ (by simpa using h) ?_
  show 3 * cs.length ≤ l.toArray.size
  simp; omega

theorem cut3_rule : ∀ r ∈ rules, (∀ c ∈ cut3 r.out, c ∈ kanaL) ∧ r.out = (cut3 r.out).flatten := by decide +kernel
theorem next_key : ∀ r ∈ rules, ∀ c ∈ r.next, isKey c = true := by decide +kernel
theorem resolveN_kind : ∀ (n : Nat) (s : Bs), (∀ b ∈ s, isKey b = true) → ((∃ r ∈ rules, (resolveN n s).1 = r.out) ∨ (resolveN n s).1 = s.take 1) ∧ ∀ b ∈ (resolveN n s).2, isKey b = true
  | 0, s, h => ⟨.inr rfl, fun b hb => h b (List.mem_of_mem_drop hb)⟩
  | n + 1, s, h => by
    unfold resolveN
    split
    · rename_i r hr
      obtain ⟨hm, -⟩ := find_some hr
      refine ⟨.inl ⟨r, hm, rfl⟩, fun b hb => ?_⟩
      rcases List.mem_append.1 hb with hb | hb
      · exact next_key r hm b hb
      · exact h b (List.mem_of_mem_drop hb)
    · exact resolveN_kind n s h
/-- what keys write, where it has no key in it, is a text of kana -/
theorem feeds_kt {p ks o q : Bs} (h : Feeds p ks o q) : (∀ b ∈ p, isKey b = true) → (∀ b ∈ ks, isKey b = true) → (∀ b ∈ o, isKey b = false) → ∃ cs, Kt o cs := by
  induction h with
  | nil p => intro _ _ _; exact ⟨[], Kt.nil⟩
  | @push p k ks o q hp _ ih =>
    intro h1 h2 h3
    refine ih (fun b hb => ?_) (fun b hb => h2 b (by simp [hb])) h3
    rcases List.mem_append.1 hb with hb | hb
    · exact h1 b hb
    · rw [List.mem_singleton.1 hb]; exact h2 k (by simp)
  | @res p k ks o q hp _ ih =>
    intro h1 h2 h3
    have hs : ∀ b ∈ p ++ [k], isKey b = true := fun b hb => by
      rcases List.mem_append.1 hb with hb | hb
      · exact h1 b hb
      · rw [List.mem_singleton.1 hb]; exact h2 k (by simp)
    obtain ⟨hk, hr⟩ := resolveN_kind (p ++ [k]).length (p ++ [k]) hs
    obtain ⟨cs, hcs⟩ := ih (by simp) (fun b hb => by
      rcases List.mem_append.1 hb with hb | hb
      · exact hr b hb
      · exact h2 b (by simp [hb])) (fun b hb => h3 b (by simp [hb]))
    rcases hk with ⟨r, hm, e⟩ | e
    · obtain ⟨a, b⟩ := cut3_rule r hm
      refine ⟨cut3 r.out ++ cs, Kt.append ?_ hcs⟩
      show Kt (resolveN (p ++ [k]).length (p ++ [k])).1 _
      rw [e]
      exact ⟨a, b⟩
    · exfalso
      have : ∃ b, b ∈ (p ++ [k]).take 1 := by
        cases p with
        | nil => exact ⟨k, by simp⟩
        | cons a p => exact ⟨a, by simp⟩
      obtain ⟨b, hb⟩ := this
      have x1 := hs b (List.mem_of_mem_take hb)
      have x2 := h3 b (List.mem_append.2 (.inl (by show b ∈ (resolveN (p ++ [k]).length (p ++ [k])).1; rw [e]; exact hb)))
      rw [x1] at x2
      cases x2
theorem feeds_qkey {p ks o q : Bs} (h : Feeds p ks o q) : (∀ b ∈ p, isKey b = true) → (∀ b ∈ ks, isKey b = true) → ∀ b ∈ q, isKey b = true := by
  induction h with
  | nil p => intro h _; exact h
  | @push p k ks o q hp _ ih =>
    intro h1 h2
    refine ih (fun b hb => ?_) (fun b hb => h2 b (by simp [hb]))
    rcases List.mem_append.1 hb with hb | hb
    · exact h1 b hb
    · rw [List.mem_singleton.1 hb]; exact h2 k (by simp)
  | @res p k ks o q hp _ ih =>
    intro h1 h2
    have hs : ∀ b ∈ p ++ [k], isKey b = true := fun b hb => by
      rcases List.mem_append.1 hb with hb | hb
      · exact h1 b hb
      · rw [List.mem_singleton.1 hb]; exact h2 k (by simp)
    obtain ⟨hk, hr⟩ := resolveN_kind (p ++ [k]).length (p ++ [k]) hs
    exact ih (by simp) (fun b hb => by
      rcases List.mem_append.1 hb with hb | hb
      · exact hr b hb
      · exact h2 b (by simp [hb]))
end Go.Proofs.YtmnbhjijphlanaaGreatDoor.Kp
