/-
  Keys that write kana alone are keys of rules; cutting keys that write a text of kana: plain.
-/
import Derived.Test.YtmnbhjijphlanaaGreatDoorKana
namespace Go.Proofs.YtmnbhjijphlanaaGreatDoor.Kp
open Go Go.Lib

theorem rule_akeys : ∀ r ∈ rules, (∀ c ∈ r.keys, c ∈ akeys) ∧ ∀ c ∈ r.next, c ∈ akeys := by decide +kernel
theorem part_akeys {s : Bs} (h : part s = true) : ∀ c ∈ s, c ∈ akeys := by
  unfold part at h
  rw [List.any_eq_true] at h
  obtain ⟨r, hr, h⟩ := h
  simp only [Bool.and_eq_true, decide_eq_true_eq, beq_iff_eq] at h
  intro c hc
  rw [← h.2] at hc
  exact (rule_akeys r hr).1 c (List.mem_of_mem_take hc)
theorem resolveN_bad : ∀ (n : Nat) (s : Bs), n ≤ s.length → ∀ b ∈ s, b ∉ akeys → b ∈ (resolveN n s).1 ∨ b ∈ (resolveN n s).2
  | 0, s, _, b, hb, _ => by
    have e : s = s.take 1 ++ s.drop 1 := (List.take_append_drop 1 s).symm
    rw [e] at hb
    exact List.mem_append.1 hb
  | n + 1, s, hn, b, hb, hbad => by
    unfold resolveN
    split
    · rename_i r hr
      obtain ⟨hm, hk⟩ := find_some hr
      right
      have e : s = s.take (n + 1) ++ s.drop (n + 1) := (List.take_append_drop (n + 1) s).symm
      rw [e] at hb
      rcases List.mem_append.1 hb with h | h
      · rw [← hk] at h
        exact absurd ((rule_akeys r hm).1 b h) hbad
      · exact List.mem_append.2 (.inr h)
    · exact resolveN_bad n s (by omega) b hb hbad
/-- a byte that no rule knows is written as it is -/
theorem feeds_bad {p ks o q : Bs} (h : Feeds p ks o q) : ∀ b ∈ ks, b ∉ akeys → b ∈ o := by
  induction h with
  | nil p => intro b hb; cases hb
  | @push p k ks o q hp _ ih =>
    intro b hb hbad
    rcases List.mem_cons.1 hb with rfl | hb
    · exact absurd (part_akeys hp b (by simp)) hbad
    · exact ih b hb hbad
  | @res p k ks o q hp _ ih =>
    intro b hb hbad
    rcases List.mem_cons.1 hb with rfl | hb
    · rcases resolveN_bad (p ++ [b]).length (p ++ [b]) (Nat.le_refl _) b (by simp) hbad with h | h
      · exact List.mem_append.2 (.inl h)
      · exact List.mem_append.2 (.inr (ih b (List.mem_append.2 (.inl h)) hbad))
    · exact List.mem_append.2 (.inr (ih b (List.mem_append.2 (.inr hb)) hbad))
theorem feeds_akeys {p ks o q : Bs} (h : Feeds p ks o q) (hk : ∀ b ∈ ks, isKey b = true) (ho : ∀ b ∈ o, isKey b = false) : ∀ b ∈ ks, b ∈ akeys := by
  intro b hb
  by_cases hm : b ∈ akeys
  · exact hm
  · have h1 := ho b (feeds_bad h b hb hm)
    rw [hk b hb] at h1
    cases h1

/-- keys that write a text of kana, cut behind i of them: what the next key does -/
theorem next_key_kt {s K : Bs} {cs : List Bs} (hK : Feeds [] K s []) (hs : Kt s cs) (hk : ∀ b ∈ K, isKey b = true) (i : Nat) (hi : i < K.length) {o q : Bs} {os : List Bs} (h : Feeds [] (K.take i) o q) (ho : Kt o os) :
    ∃ o' q' os', Feeds q [K[i]] o' q' ∧ Feeds [] (K.take (i + 1)) (o ++ o') q' ∧ Kt o' os' ∧ os.length + os'.length ≤ cs.length ∧ part q = true := by
  obtain ⟨o1, q1, o', q', f1, f2, f3, hp⟩ := path hK i hi
  obtain ⟨rfl, rfl⟩ := h.det f1
  have hno : ∀ b ∈ o', isKey b = false := fun b hb => hs.noKey b (hp.subset (List.mem_append.2 (.inr hb)))
  have hqk : ∀ b ∈ q1, isKey b = true := feeds_qkey f1 (by simp) (fun b hb => hk b (List.mem_of_mem_take hb))
  obtain ⟨os', hos⟩ := feeds_kt f3 hqk (by intro b hb; rw [List.mem_singleton.1 hb]; exact hk _ (List.getElem_mem hi)) hno
  refine ⟨o', q', os', f3, f2, hos, ?_, f1.part part_nil⟩
  have h1 := ho.len
  have h2 := hos.len
  have h3 := hs.len
  have h4 := hp.length_le
  rw [List.length_append] at h4
  omega
theorem Kt.inj {l : Bs} {cs ds : List Bs} (h : Kt l cs) (h' : Kt l ds) : cs = ds := by
  induction cs generalizing l ds with
  | nil =>
    have h1 := h.len
    have h2 := h'.len
    simp only [List.length_nil] at h1
    exact (List.eq_nil_of_length_eq_zero (by omega)).symm
  | cons c cs ih =>
    cases ds with
    | nil => have h1 := h.len; have h2 := h'.len; simp only [List.length_cons, List.length_nil] at h1 h2; omega
    | cons d ds =>
      obtain ⟨t1, c1, e1⟩ := h.tail
      obtain ⟨t2, c2, e2⟩ := h'.tail
      have l1 := (kana_facts c c1).1
      have l2 := (kana_facts d c2).1
      obtain ⟨a, b⟩ := List.append_inj (e1.symm.trans e2) (by omega)
      subst a
      rw [b] at t1
      rw [ih t1 t2]
end Go.Proofs.YtmnbhjijphlanaaGreatDoor.Kp
