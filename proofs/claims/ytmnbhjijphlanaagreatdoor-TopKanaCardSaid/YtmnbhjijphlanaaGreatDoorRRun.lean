/-
  The specification of layer 6 over the rules of the document: Run.
-/
import Derived.Test.YtmnbhjijphlanaaGreatDoorRFeed
namespace Go.Proofs.YtmnbhjijphlanaaGreatDoor
open Go.RowKit Mp Go.Shelf Go.Lib

theorem rrun_any (g cap : Nat) (ks o q : Kp.Bs) (w : World) (hR : RowAt w g) (hk : ∀ c ∈ ks, Kp.isKey c = true) (hf : Kp.Feeds [] ks o q) (hlen : o.length ≤ 100000) (hs : ks.length ≤ 1000) :
    Calls Tryz.prog 9 #[.slice (some ⟨g, 0, none⟩) 162 cap, .string ⟨ks.toArray⟩] w fun e w' => e = .returned (.tuple #[.string ⟨o.toArray⟩, .string ⟨q.toArray⟩]) ∧ Below w.heap.size w w' := by
  have hkey := keys_any ⟨ks.toArray⟩ (by simp [ByteArray.size]; omega) w
  have hfil : (⟨ks.toArray⟩ : ByteArray).data.toList.filter Kp.isKey = ks := by simpa [List.filter_eq_self] using hk
  rw [hfil] at hkey
  have hfe := rfeed_any g cap [] ks o q w hR hf hlen (by simp; omega)
  go_enter Tryz.func9, Tryz.ntmps9
  go_wp2_with (first
    | (go_at_call 27; refine hkey.mono ?_; rintro e w2 ⟨rfl, rfl⟩)
    | (go_at_call 26; refine hfe.mono ?_; rintro e w3 ⟨rfl, hb3⟩))
  go_ret2
  exact ⟨rfl, hb3⟩
end Go.Proofs.YtmnbhjijphlanaaGreatDoor
