/-
  The table of the document, split into rows and words.
-/
import Derived.Test.YtmnbhjijphlanaaGreatDoorSortR
namespace Go.Proofs.YtmnbhjijphlanaaGreatDoor
open Go.RowKit Mp

namespace Dflt
def rowsB : ByteArray := { data := (((([10, 32, 227, 129, 130, 32, 227, 129, 132, 32, 227, 129, 134, 32, 227, 129, 136, 32, 227, 129, 138, 10, 107, 32, 227, 129, 139, 32, 227, 129, 141, 32, 227, 129].append [143, 32, 227, 129, 145, 32, 227, 129, 147, 10, 115, 32, 227, 129, 149, 32, 227, 129, 151, 32, 227, 129, 153, 32, 227, 129, 155, 32, 227, 129, 157, 10, 115, 104, 32]).append ([227, 129, 151, 227, 130, 131, 32, 227, 129, 151, 32, 227, 129, 151, 227, 130, 133, 32, 227, 129, 151, 227, 129, 135, 32, 227, 129, 151, 227, 130, 135, 10, 116, 32, 227].append [129, 159, 32, 227, 129, 161, 32, 227, 129, 164, 32, 227, 129, 166, 32, 227, 129, 168, 10, 99, 104, 32, 227, 129, 161, 227, 130, 131, 32, 227, 129, 161, 32, 227, 129])).append (([161, 227, 130, 133, 32, 227, 129, 161, 227, 129, 135, 32, 227, 129, 161, 227, 130, 135, 10, 116, 115, 32, 45, 32, 45, 32, 227, 129, 164, 32, 45, 32, 45, 10, 110].append [32, 227, 129, 170, 32, 227, 129, 171, 32, 227, 129, 172, 32, 227, 129, 173, 32, 227, 129, 174, 10, 104, 32, 227, 129, 175, 32, 227, 129, 178, 32, 227, 129, 181, 32]).append ([227, 129, 184, 32, 227, 129, 187, 10, 102, 32, 227, 129, 181, 227, 129, 129, 32, 227, 129, 181, 227, 129, 131, 32, 227, 129, 181, 32, 227, 129, 181, 227, 129, 135, 32].append [227, 129, 181, 227, 129, 137, 10, 109, 32, 227, 129, 190, 32, 227, 129, 191, 32, 227, 130, 128, 32, 227, 130, 129, 32, 227, 130, 130, 10, 121, 32, 227, 130, 132, 32]))).append ((([45, 32, 227, 130, 134, 32, 45, 32, 227, 130, 136, 10, 114, 32, 227, 130, 137, 32, 227, 130, 138, 32, 227, 130, 139, 32, 227, 130, 140, 32, 227, 130, 141, 10].append [119, 32, 227, 130, 143, 32, 45, 32, 45, 32, 45, 32, 227, 130, 146, 10, 103, 32, 227, 129, 140, 32, 227, 129, 142, 32, 227, 129, 144, 32, 227, 129, 146, 32, 227]).append ([129, 148, 10, 122, 32, 227, 129, 150, 32, 227, 129, 152, 32, 227, 129, 154, 32, 227, 129, 156, 32, 227, 129, 158, 10, 106, 32, 227, 129, 152, 227, 130, 131, 32, 227].append [129, 152, 32, 227, 129, 152, 227, 130, 133, 32, 227, 129, 152, 227, 129, 135, 32, 227, 129, 152, 227, 130, 135, 10, 100, 32, 227, 129, 160, 32, 227, 129, 162, 32, 227])).append (([129, 165, 32, 227, 129, 167, 32, 227, 129, 169, 10, 98, 32, 227, 129, 176, 32, 227, 129, 179, 32, 227, 129, 182, 32, 227, 129, 185, 32, 227, 129, 188, 10, 112, 32].append [227, 129, 177, 32, 227, 129, 180, 32, 227, 129, 183, 32, 227, 129, 186, 32, 227, 129, 189, 10, 118, 32, 45, 32, 45, 32, 227, 130, 148, 32, 45, 32, 45, 10, 120]).append ([32, 227, 129, 129, 32, 227, 129, 131, 32, 227, 129, 133, 32, 227, 129, 135, 32, 227, 129, 137, 10, 120, 121, 32, 227, 130, 131, 32, 45, 32, 227, 130, 133, 32, 45].append [32, 227, 130, 135, 10, 120, 116, 32, 45, 32, 45, 32, 227, 129, 163, 32, 45, 32, 45, 10, 120, 116, 115, 32, 45, 32, 45, 32, 227, 129, 163, 32, 45, 32, 45])))).toArray }
def line (r : List Kp.Bs) : Kp.Bs := (r.tail).foldl (fun a b => a ++ [32] ++ b) (word r 0)
def lineB (r : List Kp.Bs) : ByteArray := ⟨(line r).toArray⟩
def strB (l : Kp.Bs) : ByteArray := ⟨l.toArray⟩
theorem data_inj {l : List ByteArray} {m : List Kp.Bs} (h : l.map (·.data.toList) = m) : l = m.map strB := by
  subst h
  rw [List.map_map]
  exact (List.map_id' l).symm
theorem rows_count : Lib.countB rowsB ⟨#[10]⟩ = 25 := by decide +kernel
theorem rows_split : Lib.splitB ⟨#[10]⟩ 0 25 rowsB = ([] :: tbl.map line).map strB := data_inj (by rw [Lib.splitB_data]; decide +kernel)
theorem words_count : ∀ r ∈ tbl, Lib.countB (lineB r) ⟨#[32]⟩ = 5 := by decide +kernel
theorem words_split_k : ∀ r ∈ tbl, Lib.splitK [32] 0 5 (line r) = r := by decide +kernel
theorem words_split {r : List Kp.Bs} (h : r ∈ tbl) : Lib.splitB ⟨#[32]⟩ 0 5 (lineB r) = r.map strB := data_inj (by rw [Lib.splitB_data]; exact words_split_k r h)
theorem tbl_len : tbl.length = 25 := by decide +kernel
theorem words_len : ∀ r ∈ tbl, r.length = 6 ∧ ∀ x ∈ r, x.length ≤ 12 := by decide +kernel
theorem rows_size : rowsB.size < 4294967281 := by decide +kernel
theorem line_size : ∀ r ∈ tbl, (lineB r).size < 4294967281 := by decide +kernel
end Dflt

theorem split_rows (m : Int) (w : World) (hm : w.cell? ⟨2, 0, none⟩ = some (.int .i64 m)) : Calls Tryz.prog 15 #[.string Dflt.rowsB, .string ⟨#[10]⟩] w fun e w' =>
      e = .returned (.slice (some ⟨w.heap.size, 0, none⟩) 26 26) ∧ w' = w.alloc (.cells ((([] :: Dflt.tbl.map Dflt.line).map (fun l => Value.string (Dflt.strB l))).toArray) 9) := by
  refine (Tryz.strings_Split Dflt.rowsB ⟨#[10]⟩ m w Dflt.rows_size hm (by decide)).mono ?_
  rintro e w' ⟨rfl, rfl⟩
  rw [Dflt.rows_count, Dflt.rows_split, List.map_map]
  exact ⟨rfl, rfl⟩
theorem split_words (r : List Kp.Bs) (hr : r ∈ Dflt.tbl) (m : Int) (w : World) (hm : w.cell? ⟨2, 0, none⟩ = some (.int .i64 m)) : Calls Tryz.prog 15 #[.string (Dflt.lineB r), .string ⟨#[32]⟩] w fun e w' =>
      e = .returned (.slice (some ⟨w.heap.size, 0, none⟩) 6 6) ∧ w' = w.alloc (.cells ((r.map (fun l => Value.string (Dflt.strB l))).toArray) 9) := by
  refine (Tryz.strings_Split (Dflt.lineB r) ⟨#[32]⟩ m w (Dflt.line_size r hr) hm (by decide)).mono ?_
  rintro e w' ⟨rfl, rfl⟩
  rw [Dflt.words_count r hr, Dflt.words_split hr, List.map_map]
  exact ⟨rfl, rfl⟩
end Go.Proofs.YtmnbhjijphlanaaGreatDoor
