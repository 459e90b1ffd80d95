/-
  The order of a line as a function that can be reckoned; the document's examples.
-/
import Derived.Test.YtamfjmonpbojnaaBack
namespace Go.Proofs.Ytamfjmonpbojnaa

def groupsN (p : Int → Bool) : Nat → List Int → List (Bool × List Int)
  | 0, _ => []
  | _ + 1, [] => []
  | n + 1, x :: r => if p x then (true, x :: r.takeWhile p) :: groupsN p n (r.dropWhile p) else (false, [x]) :: groupsN p n r
theorem groupsN_eq (p : Int → Bool) : ∀ n l, l.length ≤ n → groupsN p n l = groups p l := by
  intro n
  induction n with
  | zero => intro l hl; have : l = [] := List.eq_nil_of_length_eq_zero (by omega); subst this; rw [groupsN, groups]
  | succ n ih =>
    intro l hl
    cases l with
    | nil => rw [groupsN, groups]
    | cons x r =>
      rw [groupsN, groups]
      simp only [List.length_cons] at hl
      have h1 := (List.dropWhile_sublist p (l := r)).length_le
      rw [ih _ (by omega), ih _ (by omega)]
def turnStepN (lv : Int → Int) (lev : Int) (rec : List Int → List Int) (ps : List Int) : List Int :=
  (if lev % 2 = 1 then ((groupsN (fun q => decide (lev < lv q)) ps.length ps).map fun g => if g.1 then rec g.2 else g.2).reverse else ((groupsN (fun q => decide (lev < lv q)) ps.length ps).map fun g => if g.1 then rec g.2 else g.2)).flatten
def turnN (lv : Int → Int) : Nat → List Int → List Int
  | 0, ps => turnStepN lv 126 id ps
  | f + 1, ps => turnStepN lv (126 - ((f + 1 : Nat) : Int)) (turnN lv f) ps
theorem turnStepN_eq (lv : Int → Int) (lev : Int) (rec : List Int → List Int) (ps : List Int) : turnStepN lv lev rec ps = turnStep lv lev rec ps := by
  unfold turnStepN turnStep partsF
  rw [groupsN_eq _ _ _ (Nat.le_refl _)]
theorem turnN_eq (lv : Int → Int) (f : Nat) : turnN lv f = turnF lv f := by
  induction f with
  | zero => funext ps; rw [turnN, turnF, turnStepN_eq]
  | succ f ih => funext ps; rw [turnN, turnF, turnStepN_eq, ih]
theorem visual_eval (zs out : List Int) (h : turnN (lvF (boundF zs)) 126 (kf zs 0) = out) : visualF zs = out := by
  rw [visualF, ← turnN_eq, h]
theorem ev1 : visualF [0, 1, 1, 0] = [0, 2, 1, 3] := visual_eval _ _ (by decide +kernel)
theorem ev2 : visualF [1, 2, 2, 1] = [3, 1, 2, 0] := visual_eval _ _ (by decide +kernel)
theorem ev3 : backF [0, 2, 1] 3 = some [0, 2, 1] := by decide +kernel
end Go.Proofs.Ytamfjmonpbojnaa
