/-
  What the stage 'surge' computes, in plain numbers: the concrete example; rows that are compared. No condition. (This text proves no statement by itself.)
-/
import Derived.Test.YtkklmkogdogbkaaMod5
namespace Go.Proofs.Ytkklmkogdogbkaa.M
def g0 (k : Nat) : Int := [-1000, -1000, -500, 200].getD k 0
def eqR (x y u v : Nat → Int) (k : Nat) : Bool := decide (x k = u k) && decide (y k = v k)
def exP (c : Int) : P := P.mk (W.mk 4 1 1000 4 g0 g0 0 0) 3000 3000 512 512 c
theorem ex_set : (exP 1).setE 0 2000 2000 = 0 ∧ (exP 1).slo 0 2000 2000 = -314 ∧ (exP 1).shi 0 2000 2000 = -312 := by decide
theorem ex_st : (exP 2).atE = 0 ∧ (exP 2).stLo 2000 2000 1 0 = 626 ∧ (exP 2).stHi 2000 2000 1 0 = 628 := by decide
def exB : Bl := Bl.mk 4 1000 0 0 0 (-3000) (-3000) 2000 4000 4000 5000 5000
theorem ex_D0 : exB.D0 = 3000 := by
  have : root 9000001 = (3001 : Nat) := root_at (by omega) (fun j hj => by
    have := sq_bd (a := (j : Int)) (m := 3000) (by omega) (by omega)
    omega) (fun _ => by decide)
  show root 9000001 - 1 = 3000
  rw [this]; rfl
theorem ex_D1 : exB.D1 = 3000 := by
  have : root 9000000 = (3000 : Nat) := root_at (by omega) (fun j hj => by
    have := sq_bd (a := (j : Int)) (m := 2999) (by omega) (by omega)
    omega) (fun _ => by decide)
  show root 9000000 = 3000
  rw [this]; rfl
theorem ex_H : exB.H = 16 := by decide
def exW : Ws := Ws.mk 2 (fun _ => 2000) (fun _ => 2000) (fun _ => 1) (fun _ => 0) (fun _ => 0)
def exLo (k : Nat) : Int := (exP 2).rLo 0 exW (k + 1)
def exHi (k : Nat) : Int := (exP 2).rHi 0 exW (k + 1)
theorem ex_run : (exP 2).runE 0 0 exW = 0 ∧ exLo 0 = 313 ∧ exLo 1 = 469 ∧ exHi 0 = 314 ∧ exHi 1 = 471 := by decide
theorem ex_E : blowE 4 1 1000 4 g0 g0 0 0 (-3000) (-3000) 2000 4000 4000 5000 5000 0 = 0 := by decide
theorem ex_D (k : Nat) : exB.D k = 3000 := by
  unfold Bl.D
  rw [ex_D0, ex_D1]
  cases decide (k = 1) <;> rfl
theorem ex_s (k : Nat) : exB.sLo k = 2666 ∧ exB.sHi k = 2667 := by
  unfold Bl.sLo Bl.sHi
  rw [ex_D]
  decide
theorem ex_S0 : exB.S0 = 2666 := by
  unfold Bl.S0
  rw [(ex_s 0).1, (ex_s 1).1]; rfl
theorem ex_S1 : exB.S1 = 2667 := by
  unfold Bl.S1
  rw [ex_D0, ex_D1, (ex_s 0).2, (ex_s 1).2]
  decide
theorem ex_F : exB.F0 = 0 := by
  unfold Bl.F0
  rw [ex_D1]
  decide
end Go.Proofs.Ytkklmkogdogbkaa.M
