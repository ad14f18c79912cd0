/-
  The rules of the document, unsorted and sorted.
-/
import Derived.Test.YtmnbhjijphlanaaGreatDoorCmpR
import Derived.Shelf.SlSortCmp.NoneTotal
namespace Go.Proofs.YtmnbhjijphlanaaGreatDoor
open Go.RowKit Mp Go.Shelf Go.Sort

namespace Dflt
def tbl : List (List Kp.Bs) :=
  [[[], [227, 129, 130], [227, 129, 132], [227, 129, 134], [227, 129, 136], [227, 129, 138]],
   [[107], [227, 129, 139], [227, 129, 141], [227, 129, 143], [227, 129, 145], [227, 129, 147]],
   [[115], [227, 129, 149], [227, 129, 151], [227, 129, 153], [227, 129, 155], [227, 129, 157]],
   [[115, 104], [227, 129, 151, 227, 130, 131], [227, 129, 151], [227, 129, 151, 227, 130, 133], [227, 129, 151, 227, 129, 135], [227, 129, 151, 227, 130, 135]],
   [[116], [227, 129, 159], [227, 129, 161], [227, 129, 164], [227, 129, 166], [227, 129, 168]],
   [[99, 104], [227, 129, 161, 227, 130, 131], [227, 129, 161], [227, 129, 161, 227, 130, 133], [227, 129, 161, 227, 129, 135], [227, 129, 161, 227, 130, 135]],
   [[116, 115], [45], [45], [227, 129, 164], [45], [45]],
   [[110], [227, 129, 170], [227, 129, 171], [227, 129, 172], [227, 129, 173], [227, 129, 174]],
   [[104], [227, 129, 175], [227, 129, 178], [227, 129, 181], [227, 129, 184], [227, 129, 187]],
   [[102], [227, 129, 181, 227, 129, 129], [227, 129, 181, 227, 129, 131], [227, 129, 181], [227, 129, 181, 227, 129, 135], [227, 129, 181, 227, 129, 137]],
   [[109], [227, 129, 190], [227, 129, 191], [227, 130, 128], [227, 130, 129], [227, 130, 130]],
   [[121], [227, 130, 132], [45], [227, 130, 134], [45], [227, 130, 136]],
   [[114], [227, 130, 137], [227, 130, 138], [227, 130, 139], [227, 130, 140], [227, 130, 141]],
   [[119], [227, 130, 143], [45], [45], [45], [227, 130, 146]],
   [[103], [227, 129, 140], [227, 129, 142], [227, 129, 144], [227, 129, 146], [227, 129, 148]],
   [[122], [227, 129, 150], [227, 129, 152], [227, 129, 154], [227, 129, 156], [227, 129, 158]],
   [[106], [227, 129, 152, 227, 130, 131], [227, 129, 152], [227, 129, 152, 227, 130, 133], [227, 129, 152, 227, 129, 135], [227, 129, 152, 227, 130, 135]],
   [[100], [227, 129, 160], [227, 129, 162], [227, 129, 165], [227, 129, 167], [227, 129, 169]],
   [[98], [227, 129, 176], [227, 129, 179], [227, 129, 182], [227, 129, 185], [227, 129, 188]],
   [[112], [227, 129, 177], [227, 129, 180], [227, 129, 183], [227, 129, 186], [227, 129, 189]],
   [[118], [45], [45], [227, 130, 148], [45], [45]],
   [[120], [227, 129, 129], [227, 129, 131], [227, 129, 133], [227, 129, 135], [227, 129, 137]],
   [[120, 121], [227, 130, 131], [45], [227, 130, 133], [45], [227, 130, 135]],
   [[120, 116], [45], [45], [227, 129, 163], [45], [45]],
   [[120, 116, 115], [45], [45], [227, 129, 163], [45], [45]]]
def vowel (i : Nat) : UInt8 := [97, 105, 117, 101, 111].getD i 0
def word (r : List Kp.Bs) (i : Nat) : Kp.Bs := r.getD i []
/-- the rules of a row's first i kana -/
def kanaRules (r : List Kp.Bs) : Nat → List Kp.Rl
  | 0 => []
  | i + 1 => kanaRules r i ++ if word r (i + 1) = [45] then [] else [⟨word r 0 ++ [vowel i], word r (i + 1), []⟩]
def isY (r : List Kp.Bs) : Bool := decide ((word r 0).length = 1) && Lib.contains [107, 115, 116, 110, 104, 109, 114, 103, 122, 100, 98, 112] (word r 0)
def yRules (r : List Kp.Bs) : List Kp.Rl := if isY r then [⟨word r 0 ++ [121, 97], word r 2 ++ [227, 130, 131], []⟩, ⟨word r 0 ++ [121, 117], word r 2 ++ [227, 130, 133], []⟩, ⟨word r 0 ++ [121, 111], word r 2 ++ [227, 130, 135], []⟩] else []
def rowRules (r : List Kp.Bs) : List Kp.Rl := kanaRules r 5 ++ yRules r
def upTo (k : Nat) : List Kp.Rl := (tbl.take k).flatMap rowRules
def nRules : List Kp.Rl := [⟨[110], [227, 130, 147], []⟩, ⟨[110, 110], [227, 130, 147], []⟩, ⟨[110, 39], [227, 130, 147], []⟩]
def fourRules : List Kp.Rl := [⟨[45], [227, 131, 188], []⟩, ⟨[44], [227, 128, 129], []⟩, ⟨[46], [227, 128, 130], []⟩, ⟨[116, 99], [227, 129, 163], [99]⟩]
def doubled : Kp.Bs := [98, 99, 100, 102, 103, 104, 106, 107, 109, 112, 114, 115, 116, 118, 119, 121, 122]
def dbl (c : UInt8) : Kp.Rl := ⟨[c, c], [227, 129, 163], [c]⟩
def unsorted : List Kp.Rl := upTo 25 ++ nRules ++ fourRules ++ doubled.map dbl
def idx : List (Fin 162) :=
  [3, 53, 133, 28, 89, 60, 62, 65, 61, 64, 66, 68, 67, 108, 115, 118, 109, 116, 119, 121, 120, 110, 112, 114, 111, 113, 122, 125, 129, 124, 126, 130, 132, 131, 14, 16, 18, 15, 17, 127, 80, 82, 85, 81, 84, 86, 88, 87, 44, 47, 49, 45, 48, 50, 52, 51, 29, 32, 34, 30, 33, 69, 71, 74, 70, 73, 75, 77, 76, 149, 151, 150, 99, 101, 104, 100, 102, 105, 107, 106, 136, 137, 35, 38, 40, 36, 39, 41, 43, 42, 153, 155, 157, 154, 156, 158, 160, 159, 54, 56, 59, 55, 58, 19, 22, 24, 21, 23, 25, 27, 26, 4, 7, 9, 6, 8, 10, 12, 11, 90, 92, 95, 91, 93, 96, 98, 97, 134, 139, 141, 145, 140, 142, 146, 148, 147, 144, 143, 78, 83, 79, 1, 0, 2, 123, 5, 13, 20, 31, 37, 46, 57, 63, 72, 94, 103, 117, 128, 135, 138, 152, 161]
def rl (i : Fin 162) : Kp.Rl := Kp.rules[i.val]'(by rw [Kp.rules_len]; exact i.isLt)
def enc (i : Fin 162) : List Value := [strV (rl i).keys, strV (rl i).out, strV (rl i).next]
def cf (i j : Fin 162) : Int := cmpB (rl i).keys (rl j).keys
theorem unsorted_is : unsorted = idx.map rl := by decide +kernel
theorem idx_perm : idx.Perm (List.finRange 162) := List.isPerm_iff.1 (by decide +kernel)
theorem keys_up : Kp.rules.Pairwise (fun a b => Op.bytesLess a.keys b.keys = true) := by decide +kernel
theorem cf_lt {i j : Fin 162} (h : i < j) : Op.bytesLess (rl i).keys (rl j).keys = true :=
  (List.pairwise_iff_getElem.1 keys_up) i.val j.val _ _ h
theorem lt_is (i j : Fin 162) : ltOf cf i j = decide (i < j) := by
  unfold ltOf cf cmpB
  rcases Nat.lt_trichotomy i.val j.val with h | h | h
  · have h' : i < j := h
    simp [cf_lt h', h']
  · have h' : i = j := Fin.ext h
    subst h'
    simp [less_irrefl]
  · have h' : j < i := h
    have h2 : ¬ i < j := by omega
    simp [cf_lt h', less_asymm _ _ (cf_lt h'), h2]
theorem swo : SWO (ltOf cf) where
  irrefl x := by rw [lt_is]; simp
  trans x y z h1 h2 := by rw [lt_is] at *; simp at *; omega
  ntrans x y z h1 h2 := by rw [lt_is] at *; simp at *; omega
theorem sorted_is : (idx.toArray.toList.mergeSort fun x y => !(ltOf cf) y x) = List.finRange 162 := by
  have e : (fun x y => !(ltOf cf) y x) = (fun x y : Fin 162 => decide (x ≤ y)) := by
    funext x y
    rw [lt_is]
    by_cases h : x ≤ y
    · have : ¬ y < x := by omega
      simp [h, this]
    · have : y < x := by omega
      simp [h, this]
  rw [e, List.toList_toArray]
  refine List.Perm.eq_of_pairwise (le := fun x y => decide (x ≤ y) = true) (fun a b _ _ h1 h2 => ?_) (List.pairwise_mergeSort (fun a b c h1 h2 => ?_) (fun a b => ?_) _) ?_ ((List.mergeSort_perm _ _).trans idx_perm)
  · simp at h1 h2; omega
  · simp at *; omega
  · simp; omega
  · decide +kernel
end Dflt
end Go.Proofs.YtmnbhjijphlanaaGreatDoor
