/-
  The search's states as keys of a map.
-/
import Derived.Test.YtmnbhjijphlanaaGreatDoorProg
import Derived.Test.YtmnbhjijphlanaaGreatDoorMp
namespace Go.Proofs.YtmnbhjijphlanaaGreatDoor
open Go Go.RowKit Mp
def stV (x : Kp.St) : Value := .agg #[.int .i64 x.1, .string ⟨x.2.toArray⟩]
theorem no_stood : Tryz.prog.stoodInHeld 63 = false := by kernel_rfl
theorem part0 (w : World) (x y : Value) : (Go.part 3 #[x, y] 0).run Tryz.prog w = .ok x w := by simp [Go.part, isAgg, run_underlying Tryz.underlying3]
theorem part1 (w : World) (x y : Value) : (Go.part 9 #[x, y] 1).run Tryz.prog w = .ok y w := by simp [Go.part, isAgg, run_underlying Tryz.underlying9]
theorem eq_int (w : World) (d : Nat) (a b : Int) : (Op.equalIn (d + 1) 3 (.int .i64 a) (.int .i64 b)).run Tryz.prog w = .ok (a == b) w := by
  simp [Op.equalIn, run_underlying Tryz.underlying3]
theorem eq_str (w : World) (d : Nat) (a b : List UInt8) : (Op.equalIn (d + 1) 9 (.string ⟨a.toArray⟩) (.string ⟨b.toArray⟩)).run Tryz.prog w = .ok (decide (a = b)) w := by
  simp [Op.equalIn, run_underlying Tryz.underlying9, str_beq]
theorem st_equalIn (w : World) (d : Nat) (x y : Kp.St) : (Op.equalIn (d + 2) 63 (stV x) (stV y)).run Tryz.prog w = .ok (decide (x = y)) w := by
  obtain ⟨x1, x2⟩ := x
  obtain ⟨y1, y2⟩ := y
  rw [Op.equalIn]
  simp only [stV, Sem.run_bind, run_underlying Tryz.underlying63, Result.andThen_ok]
  by_cases h1 : x1 = y1
  · subst h1
    by_cases h2 : x2 = y2
    · subst h2
      simp [part0, part1, no_stood, eq_int, eq_str]
    · simp [part0, part1, no_stood, eq_int, eq_str, h2]
  · have h3 : ((x1 : Int) == (y1 : Int)) = false := by simpa using fun h => h1 (by omega)
    simp [part0, no_stood, h1, h3, eq_int]
theorem st_equal (w : World) (x y : Kp.St) : (Op.equal 63 (stV x) (stV y)).run Tryz.prog w = .ok (decide (x = y)) w := st_equalIn w 9998 x y
theorem st_check (em : Bool) (n : Nat) (k : Kp.St) (w : World) : (Instr.checkKey em (n + 2) 63 (stV k)).run Tryz.prog w = .ok () w := by
  rw [Instr.checkKey]
  simp [stV, run_underlying Tryz.underlying63, part0, part1, Instr.checkKey, run_underlying Tryz.underlying3, run_underlying Tryz.underlying9]
theorem st_same (n : Nat) (k : Kp.St) : Instr.sameBits (n + 1) (stV k) (stV k) = true := by simp [stV, Instr.sameBits, str_beq]
theorem findAsking_st (k : Kp.St) (w : World) : ∀ (es : List MapEntry) (l : List (Kp.St × Value)) (i : Nat), es.map (fun e => (e.key, e.val)) = l.map (fun x => (stV x.1, x.2)) → (Instr.findAsking 63 (stV k) es i).run Tryz.prog w = .ok (fnd k l i) w
  | [], [], _, _ => rfl
  | [], _ :: _, _, h => by simp at h
  | _ :: _, [], _, h => by simp at h
  | e :: es, x :: l, i, h => by
    simp only [List.map_cons, List.cons.injEq, Prod.mk.injEq] at h
    obtain ⟨⟨h1, h2⟩, h3⟩ := h
    unfold Instr.findAsking fnd
    rw [h1]
    simp only [Sem.run_bind, st_equal, Result.andThen_ok]
    by_cases hk : k = x.1
    · simp [hk, h2]
    · rw [if_neg (Ne.symm hk)]
      simp only [hk, decide_false, Bool.false_eq_true, if_false]
      exact findAsking_st k w es l (i + 1) h3
theorem keyBy_st : KeyBy Tryz.prog 63 stV where
  check em k w := st_check em 9998 k w
  find es l k w he := by
    cases es with
    | nil =>
      cases l with
      | nil => simp [Instr.findKey, run_underlying Tryz.underlying63, Instr.findNow, fnd]
      | cons _ _ => simp at he
    | cons e es =>
      cases l with
      | nil => simp at he
      | cons x l =>
        have h1 : e.key = stV x.1 := by simp at he; exact he.1.1
        have h2 : Instr.findNow (.struct #[{ name := "at", type := 3, offset := 0, embedded := false, tag := "", pkgPath := "henkan/auto", byteOffset := 0 }, { name := "pending", type := 9, offset := 1, embedded := false, tag := "", pkgPath := "henkan/auto", byteOffset := 8 }]) (stV k) (e :: es) 0 = none := by
          simp [Instr.findNow, Instr.sameNow, h1, stV]
        simp only [Instr.findKey, Sem.run_bind, run_underlying Tryz.underlying63, Result.andThen_ok, h2]
        exact findAsking_st k w (e :: es) (x :: l) 0 he
  same k := st_same 9999 k
theorem keyBy_s : KeyBy Tryz.prog 9 strV := keyBy_str Tryz.underlying9
end Go.Proofs.YtmnbhjijphlanaaGreatDoor
