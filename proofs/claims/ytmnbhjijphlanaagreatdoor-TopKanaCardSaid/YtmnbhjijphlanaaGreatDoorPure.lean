/-
  The plain part: association lists; the rules of the document; what it means to feed keys; the search for the least keys, with no program in sight.
-/
import Init
namespace Go.Proofs.YtmnbhjijphlanaaGreatDoor.Al
/-! association lists, as the model's map holds them: in the order in which keys came -/
variable {K V : Type} [DecidableEq K]
def get (m : List (K × V)) (x : K) : Option V := (m.find? (fun e => decide (e.1 = x))).map (·.2)
def put : List (K × V) → K → V → List (K × V)
  | [], x, v => [(x, v)]
  | e :: m, x, v => if e.1 = x then (x, v) :: m else e :: put m x v
theorem get_nil (x : K) : get ([] : List (K × V)) x = none := rfl
theorem get_cons (e : K × V) (m : List (K × V)) (x : K) : get (e :: m) x = if e.1 = x then some e.2 else get m x := by
  unfold get
  by_cases h : e.1 = x <;> simp [h]
theorem get_put (m : List (K × V)) (x y : K) (v : V) : get (put m x v) y = if x = y then some v else get m y := by
  induction m with
  | nil => simp [put, get_cons, get_nil]
  | cons e m ih =>
    unfold put
    by_cases h : e.1 = x
    · rw [if_pos h, get_cons, get_cons]
      by_cases h2 : x = y
      · simp [h2]
      · simp [h2, h]
    · rw [if_neg h, get_cons, ih, get_cons]
      by_cases h2 : x = y
      · subst h2; simp [h]
      · simp [h2]
theorem get_isSome_iff (m : List (K × V)) (x : K) : (get m x).isSome = true ↔ x ∈ m.map (·.1) := by
  induction m with
  | nil => simp [get_nil]
  | cons e m ih =>
    rw [get_cons]
    by_cases h : e.1 = x
    · simp [h]
    · rw [if_neg h, ih]; simp [Ne.symm h]
theorem get_mem {m : List (K × V)} {x : K} {v : V} (h : get m x = some v) : (x, v) ∈ m := by
  induction m with
  | nil => simp [get_nil] at h
  | cons e m ih =>
    rw [get_cons] at h
    by_cases h2 : e.1 = x
    · rw [if_pos h2] at h; cases h; rw [← h2]; exact List.mem_cons_self
    · rw [if_neg h2] at h; exact List.mem_cons_of_mem _ (ih h)
theorem get_of_mem {m : List (K × V)} (hn : (m.map (·.1)).Nodup) {x : K} {v : V} (h : (x, v) ∈ m) : get m x = some v := by
  induction m with
  | nil => cases h
  | cons e m ih =>
    simp only [List.map_cons, List.nodup_cons] at hn
    rw [get_cons]
    rcases List.mem_cons.1 h with rfl | h
    · simp
    · rw [if_neg, ih hn.2 h]
      rintro rfl
      exact hn.1 (List.mem_map.2 ⟨(e.1, v), h, rfl⟩)
theorem put_keys_mem (m : List (K × V)) (x y : K) (v : V) : y ∈ (put m x v).map (·.1) ↔ y = x ∨ y ∈ m.map (·.1) := by
  rw [← get_isSome_iff, get_put, ← get_isSome_iff]
  by_cases h : x = y
  · simp [h]
  · simp [h, Ne.symm h]
theorem put_nodup {m : List (K × V)} (hn : (m.map (·.1)).Nodup) (x : K) (v : V) : ((put m x v).map (·.1)).Nodup := by
  induction m with
  | nil => simp [put]
  | cons e m ih =>
    simp only [List.map_cons, List.nodup_cons] at hn
    unfold put
    by_cases h : e.1 = x
    · rw [if_pos h]; simp only [List.map_cons, List.nodup_cons]; rw [← h]; exact hn
    · rw [if_neg h]
      simp only [List.map_cons, List.nodup_cons]
      refine ⟨fun hm => ?_, ih hn.2⟩
      rcases (put_keys_mem m x e.1 v).1 hm with h' | h'
      · exact h h'
      · exact hn.1 h'
end Go.Proofs.YtmnbhjijphlanaaGreatDoor.Al
namespace Go.Proofs.YtmnbhjijphlanaaGreatDoor.Kp
abbrev Bs := List UInt8
/-- a rule: keys, what they write, what is pending then -/
structure Rl where
  keys : Bs
  out : Bs
  next : Bs
instance : DecidableEq Rl := fun a b => decidable_of_iff (a.keys = b.keys ∧ a.out = b.out ∧ a.next = b.next) (by cases a; cases b; simp)

def rules : List Rl :=
  [⟨[44], [227, 128, 129], []⟩,
   ⟨[45], [227, 131, 188], []⟩,
   ⟨[46], [227, 128, 130], []⟩,
   ⟨[97], [227, 129, 130], []⟩,
   ⟨[98, 97], [227, 129, 176], []⟩,
   ⟨[98, 98], [227, 129, 163], [98]⟩,
   ⟨[98, 101], [227, 129, 185], []⟩,
   ⟨[98, 105], [227, 129, 179], []⟩,
   ⟨[98, 111], [227, 129, 188], []⟩,
   ⟨[98, 117], [227, 129, 182], []⟩,
   ⟨[98, 121, 97], [227, 129, 179, 227, 130, 131], []⟩,
   ⟨[98, 121, 111], [227, 129, 179, 227, 130, 135], []⟩,
   ⟨[98, 121, 117], [227, 129, 179, 227, 130, 133], []⟩,
   ⟨[99, 99], [227, 129, 163], [99]⟩,
   ⟨[99, 104, 97], [227, 129, 161, 227, 130, 131], []⟩,
   ⟨[99, 104, 101], [227, 129, 161, 227, 129, 135], []⟩,
   ⟨[99, 104, 105], [227, 129, 161], []⟩,
   ⟨[99, 104, 111], [227, 129, 161, 227, 130, 135], []⟩,
   ⟨[99, 104, 117], [227, 129, 161, 227, 130, 133], []⟩,
   ⟨[100, 97], [227, 129, 160], []⟩,
   ⟨[100, 100], [227, 129, 163], [100]⟩,
   ⟨[100, 101], [227, 129, 167], []⟩,
   ⟨[100, 105], [227, 129, 162], []⟩,
   ⟨[100, 111], [227, 129, 169], []⟩,
   ⟨[100, 117], [227, 129, 165], []⟩,
   ⟨[100, 121, 97], [227, 129, 162, 227, 130, 131], []⟩,
   ⟨[100, 121, 111], [227, 129, 162, 227, 130, 135], []⟩,
   ⟨[100, 121, 117], [227, 129, 162, 227, 130, 133], []⟩,
   ⟨[101], [227, 129, 136], []⟩,
   ⟨[102, 97], [227, 129, 181, 227, 129, 129], []⟩,
   ⟨[102, 101], [227, 129, 181, 227, 129, 135], []⟩,
   ⟨[102, 102], [227, 129, 163], [102]⟩,
   ⟨[102, 105], [227, 129, 181, 227, 129, 131], []⟩,
   ⟨[102, 111], [227, 129, 181, 227, 129, 137], []⟩,
   ⟨[102, 117], [227, 129, 181], []⟩,
   ⟨[103, 97], [227, 129, 140], []⟩,
   ⟨[103, 101], [227, 129, 146], []⟩,
   ⟨[103, 103], [227, 129, 163], [103]⟩,
   ⟨[103, 105], [227, 129, 142], []⟩,
   ⟨[103, 111], [227, 129, 148], []⟩,
   ⟨[103, 117], [227, 129, 144], []⟩,
   ⟨[103, 121, 97], [227, 129, 142, 227, 130, 131], []⟩,
   ⟨[103, 121, 111], [227, 129, 142, 227, 130, 135], []⟩,
   ⟨[103, 121, 117], [227, 129, 142, 227, 130, 133], []⟩,
   ⟨[104, 97], [227, 129, 175], []⟩,
   ⟨[104, 101], [227, 129, 184], []⟩,
   ⟨[104, 104], [227, 129, 163], [104]⟩,
   ⟨[104, 105], [227, 129, 178], []⟩,
   ⟨[104, 111], [227, 129, 187], []⟩,
   ⟨[104, 117], [227, 129, 181], []⟩,
   ⟨[104, 121, 97], [227, 129, 178, 227, 130, 131], []⟩,
   ⟨[104, 121, 111], [227, 129, 178, 227, 130, 135], []⟩,
   ⟨[104, 121, 117], [227, 129, 178, 227, 130, 133], []⟩,
   ⟨[105], [227, 129, 132], []⟩,
   ⟨[106, 97], [227, 129, 152, 227, 130, 131], []⟩,
   ⟨[106, 101], [227, 129, 152, 227, 129, 135], []⟩,
   ⟨[106, 105], [227, 129, 152], []⟩,
   ⟨[106, 106], [227, 129, 163], [106]⟩,
   ⟨[106, 111], [227, 129, 152, 227, 130, 135], []⟩,
   ⟨[106, 117], [227, 129, 152, 227, 130, 133], []⟩,
   ⟨[107, 97], [227, 129, 139], []⟩,
   ⟨[107, 101], [227, 129, 145], []⟩,
   ⟨[107, 105], [227, 129, 141], []⟩,
   ⟨[107, 107], [227, 129, 163], [107]⟩,
   ⟨[107, 111], [227, 129, 147], []⟩,
   ⟨[107, 117], [227, 129, 143], []⟩,
   ⟨[107, 121, 97], [227, 129, 141, 227, 130, 131], []⟩,
   ⟨[107, 121, 111], [227, 129, 141, 227, 130, 135], []⟩,
   ⟨[107, 121, 117], [227, 129, 141, 227, 130, 133], []⟩,
   ⟨[109, 97], [227, 129, 190], []⟩,
   ⟨[109, 101], [227, 130, 129], []⟩,
   ⟨[109, 105], [227, 129, 191], []⟩,
   ⟨[109, 109], [227, 129, 163], [109]⟩,
   ⟨[109, 111], [227, 130, 130], []⟩,
   ⟨[109, 117], [227, 130, 128], []⟩,
   ⟨[109, 121, 97], [227, 129, 191, 227, 130, 131], []⟩,
   ⟨[109, 121, 111], [227, 129, 191, 227, 130, 135], []⟩,
   ⟨[109, 121, 117], [227, 129, 191, 227, 130, 133], []⟩,
   ⟨[110], [227, 130, 147], []⟩,
   ⟨[110, 39], [227, 130, 147], []⟩,
   ⟨[110, 97], [227, 129, 170], []⟩,
   ⟨[110, 101], [227, 129, 173], []⟩,
   ⟨[110, 105], [227, 129, 171], []⟩,
   ⟨[110, 110], [227, 130, 147], []⟩,
   ⟨[110, 111], [227, 129, 174], []⟩,
   ⟨[110, 117], [227, 129, 172], []⟩,
   ⟨[110, 121, 97], [227, 129, 171, 227, 130, 131], []⟩,
   ⟨[110, 121, 111], [227, 129, 171, 227, 130, 135], []⟩,
   ⟨[110, 121, 117], [227, 129, 171, 227, 130, 133], []⟩,
   ⟨[111], [227, 129, 138], []⟩,
   ⟨[112, 97], [227, 129, 177], []⟩,
   ⟨[112, 101], [227, 129, 186], []⟩,
   ⟨[112, 105], [227, 129, 180], []⟩,
   ⟨[112, 111], [227, 129, 189], []⟩,
   ⟨[112, 112], [227, 129, 163], [112]⟩,
   ⟨[112, 117], [227, 129, 183], []⟩,
   ⟨[112, 121, 97], [227, 129, 180, 227, 130, 131], []⟩,
   ⟨[112, 121, 111], [227, 129, 180, 227, 130, 135], []⟩,
   ⟨[112, 121, 117], [227, 129, 180, 227, 130, 133], []⟩,
   ⟨[114, 97], [227, 130, 137], []⟩,
   ⟨[114, 101], [227, 130, 140], []⟩,
   ⟨[114, 105], [227, 130, 138], []⟩,
   ⟨[114, 111], [227, 130, 141], []⟩,
   ⟨[114, 114], [227, 129, 163], [114]⟩,
   ⟨[114, 117], [227, 130, 139], []⟩,
   ⟨[114, 121, 97], [227, 130, 138, 227, 130, 131], []⟩,
   ⟨[114, 121, 111], [227, 130, 138, 227, 130, 135], []⟩,
   ⟨[114, 121, 117], [227, 130, 138, 227, 130, 133], []⟩,
   ⟨[115, 97], [227, 129, 149], []⟩,
   ⟨[115, 101], [227, 129, 155], []⟩,
   ⟨[115, 104, 97], [227, 129, 151, 227, 130, 131], []⟩,
   ⟨[115, 104, 101], [227, 129, 151, 227, 129, 135], []⟩,
   ⟨[115, 104, 105], [227, 129, 151], []⟩,
   ⟨[115, 104, 111], [227, 129, 151, 227, 130, 135], []⟩,
   ⟨[115, 104, 117], [227, 129, 151, 227, 130, 133], []⟩,
   ⟨[115, 105], [227, 129, 151], []⟩,
   ⟨[115, 111], [227, 129, 157], []⟩,
   ⟨[115, 115], [227, 129, 163], [115]⟩,
   ⟨[115, 117], [227, 129, 153], []⟩,
   ⟨[115, 121, 97], [227, 129, 151, 227, 130, 131], []⟩,
   ⟨[115, 121, 111], [227, 129, 151, 227, 130, 135], []⟩,
   ⟨[115, 121, 117], [227, 129, 151, 227, 130, 133], []⟩,
   ⟨[116, 97], [227, 129, 159], []⟩,
   ⟨[116, 99], [227, 129, 163], [99]⟩,
   ⟨[116, 101], [227, 129, 166], []⟩,
   ⟨[116, 105], [227, 129, 161], []⟩,
   ⟨[116, 111], [227, 129, 168], []⟩,
   ⟨[116, 115, 117], [227, 129, 164], []⟩,
   ⟨[116, 116], [227, 129, 163], [116]⟩,
   ⟨[116, 117], [227, 129, 164], []⟩,
   ⟨[116, 121, 97], [227, 129, 161, 227, 130, 131], []⟩,
   ⟨[116, 121, 111], [227, 129, 161, 227, 130, 135], []⟩,
   ⟨[116, 121, 117], [227, 129, 161, 227, 130, 133], []⟩,
   ⟨[117], [227, 129, 134], []⟩,
   ⟨[118, 117], [227, 130, 148], []⟩,
   ⟨[118, 118], [227, 129, 163], [118]⟩,
   ⟨[119, 97], [227, 130, 143], []⟩,
   ⟨[119, 111], [227, 130, 146], []⟩,
   ⟨[119, 119], [227, 129, 163], [119]⟩,
   ⟨[120, 97], [227, 129, 129], []⟩,
   ⟨[120, 101], [227, 129, 135], []⟩,
   ⟨[120, 105], [227, 129, 131], []⟩,
   ⟨[120, 111], [227, 129, 137], []⟩,
   ⟨[120, 116, 115, 117], [227, 129, 163], []⟩,
   ⟨[120, 116, 117], [227, 129, 163], []⟩,
   ⟨[120, 117], [227, 129, 133], []⟩,
   ⟨[120, 121, 97], [227, 130, 131], []⟩,
   ⟨[120, 121, 111], [227, 130, 135], []⟩,
   ⟨[120, 121, 117], [227, 130, 133], []⟩,
   ⟨[121, 97], [227, 130, 132], []⟩,
   ⟨[121, 111], [227, 130, 136], []⟩,
   ⟨[121, 117], [227, 130, 134], []⟩,
   ⟨[121, 121], [227, 129, 163], [121]⟩,
   ⟨[122, 97], [227, 129, 150], []⟩,
   ⟨[122, 101], [227, 129, 156], []⟩,
   ⟨[122, 105], [227, 129, 152], []⟩,
   ⟨[122, 111], [227, 129, 158], []⟩,
   ⟨[122, 117], [227, 129, 154], []⟩,
   ⟨[122, 121, 97], [227, 129, 152, 227, 130, 131], []⟩,
   ⟨[122, 121, 111], [227, 129, 152, 227, 130, 135], []⟩,
   ⟨[122, 121, 117], [227, 129, 152, 227, 130, 133], []⟩,
   ⟨[122, 122], [227, 129, 163], [122]⟩]

def find (s : Bs) : Option Rl := rules.find? (fun r => r.keys == s)
def part (s : Bs) : Bool := rules.any (fun r => decide (s.length < r.keys.length) && r.keys.take s.length == s)
def resolveN : Nat → Bs → Bs × Bs
  | 0, s => (s.take 1, s.drop 1)
  | n + 1, s => match find (s.take (n + 1)) with
    | some r => (r.out, r.next ++ s.drop (n + 1))
    | none => resolveN n s
def resolve (s : Bs) : Bs × Bs := resolveN s.length s

/-- the keys that occur in rules, in ascending order -/
def akeys : Bs := [39, 44, 45, 46, 97, 98, 99, 100, 101, 102, 103, 104, 105, 106, 107, 109, 110, 111, 112, 114, 115, 116, 117, 118, 119, 120, 121, 122]
theorem akeys_are : ∀ c : Fin 256, ((c.val.toUInt8) ∈ akeys) ↔ ∃ r ∈ rules, c.val.toUInt8 ∈ r.keys := by decide +kernel

theorem rules_len : rules.length = 162 := by decide +kernel
theorem rules_next : ∀ r ∈ rules, r.next.length < r.keys.length ∧ r.keys.length ≤ 4 := by decide +kernel
theorem part_nil : part [] = true := by decide +kernel

theorem find_some {s : Bs} {r : Rl} (h : find s = some r) : r ∈ rules ∧ r.keys = s := by
  unfold find at h
  exact ⟨List.mem_of_find?_eq_some h, by simpa using List.find?_some h⟩

theorem resolveN_lt : ∀ (n : Nat) (s : Bs), n ≤ s.length → s ≠ [] → (resolveN n s).2.length < s.length
  | 0, s, _, h => by
    have := List.length_pos_iff.2 h
    simp [resolveN]; omega
  | n + 1, s, hn, h => by
    unfold resolveN
    split
    · rename_i r hr
      obtain ⟨hm, hk⟩ := find_some hr
      have := (rules_next r hm).1
      rw [hk] at this
      simp at this ⊢
      omega
    · exact resolveN_lt n s (by omega) h
theorem resolve_lt (s : Bs) (h : s ≠ []) : (resolve s).2.length < s.length := resolveN_lt _ s (Nat.le_refl _) h

/-- feeding keys `ks` while `p` are pending writes `o` and leaves `q` pending -/
inductive Feeds : Bs → Bs → Bs → Bs → Prop
  | nil (p : Bs) : Feeds p [] [] p
  | push {p : Bs} {k : UInt8} {ks o q : Bs} : part (p ++ [k]) = true → Feeds (p ++ [k]) ks o q → Feeds p (k :: ks) o q
  | res {p : Bs} {k : UInt8} {ks o q : Bs} : part (p ++ [k]) = false → Feeds [] ((resolve (p ++ [k])).2 ++ ks) o q → Feeds p (k :: ks) ((resolve (p ++ [k])).1 ++ o) q

/-- what every round of the loop lowers -/
def mu (p ks : Bs) : Nat := (p.length + ks.length) * (p.length + ks.length) + ks.length

theorem mu_push (p : Bs) (k : UInt8) (ks : Bs) : mu (p ++ [k]) ks < mu p (k :: ks) := by
  unfold mu
  simp only [List.length_append, List.length_cons, List.length_nil]
  have e : p.length + (0 + 1) + ks.length = p.length + (ks.length + 1) := by omega
  rw [e]; omega
theorem mu_res (p : Bs) (k : UInt8) (ks : Bs) : mu [] ((resolve (p ++ [k])).2 ++ ks) < mu p (k :: ks) := by
  have h := resolve_lt (p ++ [k]) (by simp)
  unfold mu
  simp only [List.length_append, List.length_cons, List.length_nil] at h ⊢
  generalize (resolve (p ++ [k])).2.length = r at h
  generalize ha : p.length + (ks.length + 1) = a
  generalize hb : 0 + (r + ks.length) = b
  have h1 : b + 1 ≤ a := by omega
  have h2 : (b + 1) * (b + 1) ≤ a * a := Nat.mul_le_mul h1 h1
  have h3 : (b + 1) * (b + 1) = b * b + 2 * b + 1 := by
    simp [Nat.add_mul, Nat.mul_add]; omega
  omega

theorem feeds_total (p ks : Bs) : ∃ o q, Feeds p ks o q := by
  generalize hm : mu p ks = m
  induction m using Nat.strongRecOn generalizing p ks with
  | ind m ih =>
    cases ks with
    | nil => exact ⟨_, _, .nil p⟩
    | cons k ks =>
      cases hp : part (p ++ [k]) with
      | true =>
        obtain ⟨o, q, h⟩ := ih _ (hm ▸ mu_push p k ks) (p ++ [k]) ks rfl
        exact ⟨o, q, .push hp h⟩
      | false =>
        obtain ⟨o, q, h⟩ := ih _ (hm ▸ mu_res p k ks) [] _ rfl
        exact ⟨_, q, .res hp h⟩

theorem Feeds.det {p ks o q : Bs} (h : Feeds p ks o q) : ∀ {o' q' : Bs}, Feeds p ks o' q' → o' = o ∧ q' = q := by
  induction h with
  | nil p => intro o' q' h'; cases h'; exact ⟨rfl, rfl⟩
  | push hp _ ih =>
    intro o' q' h'
    cases h' with
    | push _ h' => exact ih h'
    | res hp' _ => rw [hp] at hp'; cases hp'
  | res hp _ ih =>
    intro o' q' h'
    cases h' with
    | push hp' _ => rw [hp] at hp'; cases hp'
    | res _ h' => obtain ⟨rfl, rfl⟩ := ih h'; exact ⟨rfl, rfl⟩

theorem Feeds.append {p ks o q : Bs} (h : Feeds p ks o q) : ∀ {ks' o' q' : Bs}, Feeds q ks' o' q' → Feeds p (ks ++ ks') (o ++ o') q' := by
  induction h with
  | nil p => intro ks' o' q' h'; simpa using h'
  | push hp _ ih => intro ks' o' q' h'; exact .push hp (ih h')
  | res hp _ ih =>
    intro ks' o' q' h'
    have := ih h'
    rw [List.append_assoc] at this
    rw [List.append_assoc]
    exact .res hp this

theorem Feeds.split {p a b o q : Bs} (h : Feeds p (a ++ b) o q) : ∃ o1 q1 o2, Feeds p a o1 q1 ∧ Feeds q1 b o2 q ∧ o = o1 ++ o2 := by
  obtain ⟨o1, q1, h1⟩ := feeds_total p a
  obtain ⟨o2, q2, h2⟩ := feeds_total q1 b
  obtain ⟨e, e'⟩ := h.det (h1.append h2)
  subst e e'
  exact ⟨o1, q1, o2, h1, h2, rfl⟩

theorem Feeds.part {p ks o q : Bs} (h : Feeds p ks o q) : Kp.part p = true → Kp.part q = true := by
  induction h with
  | nil p => exact id
  | push hp _ ih => exact fun _ => ih hp
  | res hp _ ih => exact fun _ => ih part_nil

/-- a key as the automaton means it -/
def isKey (c : UInt8) : Bool := decide (33 ≤ c.toNat) && decide (c.toNat ≤ 126)
theorem rules_keys : ∀ r ∈ rules, ∀ c ∈ r.keys, isKey c = true := by decide +kernel
theorem part_keys {s : Bs} (h : part s = true) : s.length ≤ 3 ∧ ∀ c ∈ s, isKey c = true := by
  unfold part at h
  rw [List.any_eq_true] at h
  obtain ⟨r, hr, h⟩ := h
  simp only [Bool.and_eq_true, decide_eq_true_eq, beq_iff_eq] at h
  have := (rules_next r hr).2
  refine ⟨by omega, fun c hc => rules_keys r hr c ?_⟩
  rw [← h.2] at hc
  exact List.mem_of_mem_take hc

/-! ### the search -/
abbrev St := Nat × Bs
/-- keys `k` lead to the state: they write the first so many bytes of `s`, and leave these keys pending -/
def Reach (s k : Bs) (x : St) : Prop := Feeds [] k (s.take x.1) x.2 ∧ x.1 ≤ s.length
/-- the state behind one key: what it writes, `o`, and leaves, `q`, must be as Step says -/
theorem Reach.step {s k : Bs} {x : St} (h : Reach s k x) {c : UInt8} {o q : Bs} (hf : Feeds x.2 [c] o q) (hp : o <+: s.drop x.1) : Reach s (k ++ [c]) (x.1 + o.length, q) := by
  obtain ⟨h1, h2⟩ := h
  obtain ⟨t, ht⟩ := hp
  have hl : (s.drop x.1).length = o.length + t.length := by rw [← ht]; simp
  simp at hl
  refine ⟨?_, by show x.1 + o.length ≤ s.length; omega⟩
  have e : s.take (x.1 + o.length) = s.take x.1 ++ o := by
    rw [List.take_add, ← ht]
    simp
  show Feeds [] (k ++ [c]) (s.take (x.1 + o.length)) q
  rw [e]
  exact h1.append hf

theorem reach_nil (s : Bs) : Reach s [] (0, []) := ⟨by simpa using Feeds.nil [], Nat.zero_le _⟩

/-- keys that write s, cut anywhere: where the search is then, and what the next key does -/
theorem path {s W : Bs} (h : Feeds [] W s []) (i : Nat) (hi : i < W.length) : ∃ o q o' q', Feeds [] (W.take i) o q ∧ Feeds [] (W.take (i + 1)) (o ++ o') q' ∧ Feeds q [W[i]] o' q' ∧ o ++ o' <+: s := by
  have e : W = W.take i ++ ([W[i]] ++ W.drop (i + 1)) := by
    simp
  rw [e] at h
  obtain ⟨o, q, o2, h1, h2, e1⟩ := h.split
  obtain ⟨o', q', o3, h3, h4, e2⟩ := h2.split
  refine ⟨o, q, o', q', h1, ?_, h3, ⟨o3, by rw [e1, e2]; simp⟩⟩
  have := h1.append h3
  rwa [List.take_append_getElem hi] at this
end Go.Proofs.YtmnbhjijphlanaaGreatDoor.Kp
namespace Go.Proofs.YtmnbhjijphlanaaGreatDoor.Kp
open Al

/-- the states that the search can meet -/
def parts : List Bs := [] :: rules.flatMap (fun r => (List.range r.keys.length).map (fun i => r.keys.take i))
theorem part_mem {q : Bs} (h : part q = true) : q ∈ parts := by
  unfold part at h
  rw [List.any_eq_true] at h
  obtain ⟨r, hr, h⟩ := h
  simp only [Bool.and_eq_true, decide_eq_true_eq, beq_iff_eq] at h
  refine List.mem_cons_of_mem _ (List.mem_flatMap.2 ⟨r, hr, List.mem_map.2 ⟨q.length, List.mem_range.2 h.1, h.2⟩⟩)
theorem parts_len : parts.length ≤ 400 := by decide +kernel

def states (n : Nat) : List St := (List.range (n + 1)).flatMap (fun i => parts.map (fun q => (i, q)))
theorem states_len (n : Nat) : (states n).length ≤ (n + 1) * 400 := by
  unfold states
  rw [List.length_flatMap]
  simp only [List.length_map]
  rw [List.map_const', List.sum_replicate_nat]
  simpa using Nat.mul_le_mul_left (n + 1) parts_len
theorem nodup_len {α : Type} [DecidableEq α] {l m : List α} (hn : l.Nodup) (hs : ∀ x ∈ l, x ∈ m) : l.length ≤ m.length := by
  induction l generalizing m with
  | nil => simp
  | cons a l ih =>
    simp only [List.nodup_cons] at hn
    have ha : a ∈ m := hs a List.mem_cons_self
    have := ih (m := m.erase a) hn.2 (fun x hx => (List.mem_erase_of_ne (by rintro rfl; exact hn.1 hx)).2 (hs x (List.mem_cons_of_mem _ hx)))
    rw [List.length_erase_of_mem ha] at this
    have := List.length_pos_of_mem ha
    simp; omega

/-- what is known of a state that was reached by keys: they lead there, are keys, and no more than d; what is pending is a beginning -/
def Good (s : Bs) (d : Nat) (x : St) (k : Bs) : Prop := Reach s k x ∧ k.length ≤ d ∧ (∀ c ∈ k, isKey c = true) ∧ part x.2 = true
theorem Good.mem {s : Bs} {d : Nat} {x : St} {k : Bs} (h : Good s d x k) : x ∈ states s.length := by
  obtain ⟨⟨_, h2⟩, _, _, h3⟩ := h
  refine List.mem_flatMap.2 ⟨x.1, List.mem_range.2 (by omega), List.mem_map.2 ⟨x.2, part_mem h3, rfl⟩⟩
theorem Good.mono {s : Bs} {d d' : Nat} {x : St} {k : Bs} (h : Good s d x k) (hd : d ≤ d') : Good s d' x k := ⟨h.1, Nat.le_trans h.2.1 hd, h.2.2⟩

/-- one key leads from x to y -/
def Aft (s : Bs) (x : St) (c : UInt8) (y : St) : Prop := ∃ o q, Feeds x.2 [c] o q ∧ o <+: s.drop x.1 ∧ y = (x.1 + o.length, q)
theorem Good.step {s : Bs} {d : Nat} {x y : St} {k : Bs} {c : UInt8} (h : Good s d x k) (hc : isKey c = true) (ha : Aft s x c y) : Good s (d + 1) y (k ++ [c]) := by
  obtain ⟨h1, h2, h3, h4⟩ := h
  obtain ⟨o, q, hf, hp, rfl⟩ := ha
  refine ⟨h1.step hf hp, by simp; omega, fun b hb => ?_, hf.part h4⟩
  rcases List.mem_append.1 hb with hb | hb
  · exact h3 b hb
  · rw [List.mem_singleton.1 hb]; exact hc
theorem Aft.det {s : Bs} {x y y' : St} {c : UInt8} (h : Aft s x c y) (h' : Aft s x c y') : y' = y := by
  obtain ⟨o, q, hf, _, rfl⟩ := h
  obtain ⟨o', q', hf', _, rfl⟩ := h'
  obtain ⟨rfl, rfl⟩ := hf.det hf'
  rfl

abbrev Mp := List (St × Bs)

/-- what holds at the head of the search's loop, behind d rounds: M what was reached, L the states of the last round; A the keys that are tried at least; W some keys that write s -/
structure Inv (s A W : Bs) (d : Nat) (M : Mp) (L : List St) : Prop where
  nodup : (M.map (·.1)).Nodup
  good : ∀ x k, get M x = some k → Good s d x k
  last : ∀ x ∈ L, (get M x).isSome = true
  closed : ∀ x, (get M x).isSome = true → x ∉ L → ∀ c ∈ A, ∀ y, Aft s x c y → (get M y).isSome = true
  start : (get M (0, [])).isSome = true
  goal : (get M (s.length, [])).isSome = true → (s.length, []) ∈ L
  lnodup : L.Nodup
  path : ∀ i, i ≤ d → i ≤ W.length → ∀ o q, Feeds [] (W.take i) o q → (get M (o.length, q)).isSome = true

theorem inv_start {s A W : Bs} : Inv s A W 0 [((0, []), [])] [(0, [])] := by
  have hg : ∀ x k, get [(((0 : Nat), ([] : Bs)), ([] : Bs))] x = some k → x = (0, []) ∧ k = [] := by
    intro x k h
    rw [get_cons] at h
    by_cases e : ((0 : Nat), ([] : Bs)) = x
    · rw [if_pos e] at h; cases h; exact ⟨e.symm, rfl⟩
    · rw [if_neg e] at h; simp [get_nil] at h
  have h0 : (get [(((0 : Nat), ([] : Bs)), ([] : Bs))] (0, [])).isSome = true := by simp [get_cons]
  refine ⟨by simp, fun x k h => ?_, fun x hx => ?_, fun x hx hn => ?_, h0, fun h => ?_, by simp, fun i hi _ o q hf => ?_⟩
  · obtain ⟨rfl, rfl⟩ := hg x k h
    exact ⟨reach_nil s, Nat.le_refl _, by simp, part_nil⟩
  · rw [List.mem_singleton.1 hx]; exact h0
  · obtain ⟨k, hk⟩ := Option.isSome_iff_exists.1 hx
    exact absurd (by rw [(hg x k hk).1]; simp) hn
  · obtain ⟨k, hk⟩ := Option.isSome_iff_exists.1 h
    rw [(hg _ k hk).1]; simp
  · obtain rfl : i = 0 := by omega
    rw [List.take_zero] at hf
    cases hf
    exact h0

/-- while a round goes on: R what it reached that is new, X these states in the order in which they came; `done x c` says for which states and keys the round has seen to it -/
structure Mid (s A : Bs) (d : Nat) (M R : Mp) (X : List St) (done : St → UInt8 → Prop) : Prop where
  nodup : (R.map (·.1)).Nodup
  good : ∀ x k, get R x = some k → Good s (d + 1) x k ∧ get M x = none
  xs : ∀ x, x ∈ X ↔ (get R x).isSome = true
  xnodup : X.Nodup
  all : ∀ x c y, done x c → Aft s x c y → (get M y).isSome = true ∨ (get R y).isSome = true

theorem mid_start (s A : Bs) (d : Nat) (M : Mp) : Mid s A d M [] [] (fun _ _ => False) :=
  ⟨by simp, fun x k h => by simp [get_nil] at h, fun x => by simp [get_nil], by simp, fun _ _ _ h => h.elim⟩

/-- the state is no new one (or there is none) -/
theorem Mid.skip {s A : Bs} {d : Nat} {M R : Mp} {X : List St} {done : St → UInt8 → Prop} (h : Mid s A d M R X done) (x : St) (c : UInt8)
    (hs : ∀ y, Aft s x c y → (get M y).isSome = true ∨ (get R y).isSome = true) : Mid s A d M R X (fun x' c' => done x' c' ∨ (x' = x ∧ c' = c)) := by
  refine ⟨h.nodup, h.good, h.xs, h.xnodup, fun x' c' y hd ha => ?_⟩
  rcases hd with hd | ⟨rfl, rfl⟩
  · exact h.all x' c' y hd ha
  · exact hs y ha

/-- a state that was not reached before this round gets keys (its first, or lesser ones) -/
theorem Mid.put {s A : Bs} {d : Nat} {M R : Mp} {X : List St} {done : St → UInt8 → Prop} (h : Mid s A d M R X done) {x y : St} {c : UInt8} {k : Bs}
    (hx : Good s d x k) (hc : isKey c = true) (ha : Aft s x c y) (hM : get M y = none) :
    Mid s A d M (put R y (k ++ [c])) (if (get R y).isSome then X else X ++ [y]) (fun x' c' => done x' c' ∨ (x' = x ∧ c' = c)) := by
  refine ⟨put_nodup h.nodup _ _, fun z k' hz => ?_, fun z => ?_, ?_, fun x' c' z hd hz => ?_⟩
  · rw [get_put] at hz
    by_cases e : y = z
    · subst e; rw [if_pos rfl] at hz; cases hz; exact ⟨hx.step hc ha, hM⟩
    · rw [if_neg e] at hz; exact h.good z k' hz
  · rw [get_put]
    by_cases e : y = z
    · subst e
      rw [if_pos rfl]
      by_cases hr : (get R y).isSome = true
      · rw [if_pos hr]; simpa using (h.xs y).2 hr
      · rw [if_neg hr]; simp
    · rw [if_neg e]
      by_cases hr : (get R y).isSome = true
      · rw [if_pos hr]; exact h.xs z
      · rw [if_neg hr, List.mem_append, h.xs z]; simp [Ne.symm e]
  · by_cases hr : (get R y).isSome = true
    · rw [if_pos hr]; exact h.xnodup
    · rw [if_neg hr]
      refine List.nodup_append.2 ⟨h.xnodup, by simp, fun a ha' b hb => ?_⟩
      rw [List.mem_singleton.1 hb]
      rintro rfl
      exact hr ((h.xs a).1 ha')
  · rw [get_put]
    rcases hd with hd | ⟨rfl, rfl⟩
    · rcases h.all x' c' z hd hz with h1 | h1
      · exact .inl h1
      · right; by_cases e : y = z
        · rw [if_pos e]; rfl
        · rw [if_neg e]; exact h1
    · right; rw [if_pos (hz.det ha)]; rfl

/-- what was reached anew is laid beside the rest -/
theorem Inv.next {s A W : Bs} {d : Nat} {M R M' : Mp} {L X : List St} {done : St → UInt8 → Prop} (hW : Feeds [] W s []) (hA : ∀ c ∈ W, c ∈ A) (h : Inv s A W d M L) (hr : Mid s A d M R X done)
    (hdone : ∀ x ∈ L, ∀ c ∈ A, done x c) (hng : get M (s.length, []) = none) (hn' : (M'.map (·.1)).Nodup) (hM' : ∀ y, get M' y = match get R y with | some k => some k | none => get M y) : Inv s A W (d + 1) M' X := by
  have up : ∀ y, (get M y).isSome = true → (get M' y).isSome = true := fun y hy => by
    rw [hM']; cases get R y <;> simp [hy]
  have upR : ∀ y, (get R y).isSome = true → (get M' y).isSome = true := fun y hy => by
    obtain ⟨k, hk⟩ := Option.isSome_iff_exists.1 hy
    rw [hM', hk]; rfl
  have down : ∀ y, (get M' y).isSome = true → (get R y).isSome = true ∨ (get M y).isSome = true := fun y hy => by
    rw [hM'] at hy
    cases hR : get R y with
    | some k => exact .inl rfl
    | none => rw [hR] at hy; exact .inr hy
  have closed : ∀ x, (get M x).isSome = true → ∀ c ∈ A, ∀ y, Aft s x c y → (get M' y).isSome = true := fun x hx c hc y ha => by
    by_cases hl : x ∈ L
    · rcases hr.all x c y (hdone x hl c hc) ha with h1 | h1
      · exact up y h1
      · exact upR y h1
    · exact up y (h.closed x hx hl c hc y ha)
  refine ⟨hn', fun x k hk => ?_, fun x hx => upR x ((hr.xs x).1 hx), fun x hx hnx c hc y ha => ?_, up _ h.start, fun hg => ?_, hr.xnodup, fun i hi hiW o q hf => ?_⟩
  · rw [hM'] at hk
    cases hR : get R x with
    | some k' => rw [hR] at hk; cases hk; exact (hr.good x _ hR).1
    | none => rw [hR] at hk; exact (h.good x k hk).mono (Nat.le_succ d)
  · rcases down x hx with h1 | h1
    · exact absurd ((hr.xs x).2 h1) hnx
    · exact closed x h1 c hc y ha
  · rcases down _ hg with h1 | h1
    · exact (hr.xs _).2 h1
    · rw [hng] at h1; cases h1
  · rcases Nat.lt_or_ge i (d + 1) with hlt | hge
    · exact up _ (h.path i (by omega) hiW o q hf)
    · obtain rfl : i = d + 1 := by omega
      obtain ⟨o1, q1, o2, q2, f1, f2, f3, hp⟩ := Kp.path hW d (by omega)
      obtain ⟨rfl, rfl⟩ := hf.det f2
      have hm := h.path d (Nat.le_refl _) (by omega) o1 q1 f1
      refine closed _ hm W[d] (hA _ (List.getElem_mem _)) _ ⟨o2, _, f3, ?_, by simp⟩
      obtain ⟨t, ht⟩ := hp
      exact ⟨t, by rw [← ht]; simp⟩

theorem Inv.found {s A W : Bs} {d : Nat} {M : Mp} {L : List St} (hW : Feeds [] W s []) (h : Inv s A W d M L) (hd : W.length ≤ d) : (get M (s.length, [])).isSome = true := by
  have := h.path W.length hd (Nat.le_refl _) s [] (by rwa [List.take_of_length_le (Nat.le_refl _)])
  exact this

/-- the search can't end without the goal -/
theorem Inv.some {s A W : Bs} {d : Nat} {M : Mp} (hW : Feeds [] W s []) (hA : ∀ c ∈ W, c ∈ A) (h : Inv s A W d M []) : False := by
  have all : ∀ i, i ≤ W.length → ∀ o q, Feeds [] (W.take i) o q → (get M (o.length, q)).isSome = true := by
    intro i
    induction i with
    | zero => intro _ o q hf; rw [List.take_zero] at hf; cases hf; exact h.start
    | succ i ih =>
      intro hi o q hf
      obtain ⟨o1, q1, o2, q2, f1, f2, f3, hp⟩ := Kp.path hW i (by omega)
      obtain ⟨rfl, rfl⟩ := hf.det f2
      refine h.closed _ (ih (by omega) o1 q1 f1) (by simp) W[i] (hA _ (List.getElem_mem _)) _ ⟨o2, _, f3, ?_, by simp⟩
      obtain ⟨t, ht⟩ := hp
      exact ⟨t, by rw [← ht]; simp⟩
  have := h.goal (all W.length (Nat.le_refl _) s [] (by rwa [List.take_of_length_le (Nat.le_refl _)]))
  simp at this

theorem Inv.size {s A W : Bs} {d : Nat} {M : Mp} {L : List St} (h : Inv s A W d M L) : M.length ≤ (s.length + 1) * 400 := by
  rw [← List.length_map (f := (·.1))]
  refine Nat.le_trans (nodup_len h.nodup fun x hx => ?_) (states_len s.length)
  obtain ⟨k, hk⟩ := Option.isSome_iff_exists.1 ((get_isSome_iff M x).2 hx)
  exact (h.good x k hk).mem
theorem Mid.size {s A : Bs} {d : Nat} {M R : Mp} {X : List St} {done : St → UInt8 → Prop} (h : Mid s A d M R X done) : R.length ≤ (s.length + 1) * 400 ∧ X.length ≤ (s.length + 1) * 400 := by
  have mem : ∀ x, (get R x).isSome = true → x ∈ states s.length := fun x hx => by
    obtain ⟨k, hk⟩ := Option.isSome_iff_exists.1 hx
    exact (h.good x k hk).1.mem
  refine ⟨?_, Nat.le_trans (nodup_len h.xnodup fun x hx => mem x ((h.xs x).1 hx)) (states_len s.length)⟩
  rw [← List.length_map (f := (·.1))]
  exact Nat.le_trans (nodup_len h.nodup fun x hx => mem x ((get_isSome_iff R x).2 hx)) (states_len s.length)
end Go.Proofs.YtmnbhjijphlanaaGreatDoor.Kp
