/- Texts of the claim: GlobH. -/
import Derived.Test.YtildjgdhdcoojaaDoorZ11
import Derived.Test.YtildjgdhdcoojaaDoorZ13
import Derived.Test.YtildjgdhdcoojaaDoorCards
import Derived.Test.YtildjgdhdcoojaaDoorTie
import Derived.ProofKit
import Derived.OpenShut
import Derived.ShutString
import Derived.ChangeOld
import Derived.Below
import Derived.LaidMore
import Derived.Stop.Joined
import Derived.Lib.LaidTab
namespace Go.Proofs.YtildjgdhdcoojaaDoor.GlobH
set_option linter.unusedVariables false
open Go

theorem own : ownKnob Tryd.prog.godebug = none := by kernel_rfl
theorem laidOut : laidOutB Tryd.prog = true := by kernel_rfl
theorem gDir : Tryd.prog.globalNamed "haruspex/hidden.directions" = some 0 := by kernel_rfl
theorem tDir : (Tryd.prog.globals[0]?).map (·.type) = some 144 := by kernel_rfl
theorem cells143 : Tryd.prog.cellsOf 143 = 1 := by kernel_rfl
def laidH : List (String × DataW Unit) := [("haruspex/hidden.directions", Rows.laid_haruspex_hidden_directions)]
/-- The door's own heap meets the condition. -/
theorem door_met (os : Os) (args : Array Value) : laidMetH Tryd.prog laidH ((World.doorLaid Tryd.prog 600 os).forCall (fun _ _ => 0) ⟨#[], args, []⟩).memory :=
  laidMetH_of_parts3 (fuel := 8) (laidMet_of_run' 8 (by kernel_rfl) (by kernel_rfl)) (by kernel_rfl) (by kernel_rfl)
set_option maxRecDepth 100000 in
/-- What the condition gives: the two functions. -/
theorem of_laid {W : World} (h : laidMetH Tryd.prog laidH W) : W.cell? ⟨0, 0, none⟩ = some (.func (.func 65) #[] #[]) ∧ W.cell? ⟨0, 1, none⟩ = some (.func (.func 140) #[] #[]) := by
  obtain ⟨g, t, cs, fuel, p, hg, ht, hv, hd⟩ := h.funcs (List.mem_singleton.2 rfl)
  obtain rfl := Option.some.inj (gDir.symm.trans hg)
  obtain rfl := Option.some.inj (tDir.symm.trans ht)
  have hd' : DataW.trod (funcToken Tryd.prog) Tryd.prog W 0 (fun _ => true) true fuel 144 cs.toList = some (.agg [.held [40, 104, 97, 114, 117, 115, 112, 101, 120, 47, 104, 105, 100, 100, 101, 110, 46, 119, 97, 116, 99, 104, 101, 114, 41, 46, 117, 112], .held [40, 104, 97, 114, 117, 115, 112, 101, 120, 47, 104, 105, 100, 100, 101, 110, 46, 119, 97, 116, 99, 104, 101, 114, 41, 46, 100, 111, 119, 110]], p) := hd
  clear hd
  cases fuel with
  | zero => simp [DataW.trod] at hd'
  | succ fuel =>
    simp only [DataW.trod, Tryd.underlying144, cells143, Nat.mul_one] at hd'
    split at hd'
    · rename_i hl
      obtain ⟨xs, hm, hx⟩ := Option.map_eq_some_iff.1 hd'
      have hxs : xs.map (·.1) = [.held [40, 104, 97, 114, 117, 115, 112, 101, 120, 47, 104, 105, 100, 100, 101, 110, 46, 119, 97, 116, 99, 104, 101, 114, 41, 46, 117, 112], .held [40, 104, 97, 114, 117, 115, 112, 101, 120, 47, 104, 105, 100, 100, 101, 110, 46, 119, 97, 116, 99, 104, 101, 114, 41, 46, 100, 111, 119, 110]] := by
        have := congrArg Prod.fst hx
        injection this
      have hcl : cs.toList.length = 2 := by first | exact hl | (exact of_decide_eq_true hl) | simpa using hl
      obtain ⟨a, b, hab⟩ : ∃ a b, cs.toList = [a, b] := by
        match cs.toList, hcl with
        | [a, b], _ => exact ⟨a, b, rfl⟩
      rw [hab] at hm
      obtain ⟨y0, h0, r0⟩ := Lib.mapM_at hm 0 0 (by simp)
      obtain ⟨y1, h1, r1⟩ := Lib.mapM_at hm 1 1 (by simp)
      have e0 : (xs.map (·.1))[0]? = some y0.1 := by simp [h0]
      have e1 : (xs.map (·.1))[1]? = some y1.1 := by simp [h1]
      rw [hxs] at e0 e1
      simp only [List.getElem?_cons_zero, List.getElem?_cons_succ, Option.some.injEq] at e0 e1
      obtain ⟨y0a, y0b⟩ := y0
      obtain ⟨y1a, y1b⟩ := y1
      simp only at e0 e1
      subst e0; subst e1
      simp only [List.drop_zero, List.take_succ_cons, List.take_zero, List.drop_succ_cons] at r0 r1
      obtain rfl := func_of_trod (f0 := 65) Tryd.underlying143 (by kernel_rfl) r0
      obtain rfl := func_of_trod (f0 := 140) Tryd.underlying143 (by kernel_rfl) r1
      have c0 := World.var?_cell hg hv 0
      have c1 := World.var?_cell hg hv 1
      have hcs : cs = #[Value.func (.func 65) #[] #[], Value.func (.func 140) #[] #[]] := by
        apply Array.ext'
        exact hab
      rw [hcs] at c0 c1
      exact ⟨by simpa using c0, by simpa using c1⟩
    · cases hd'
theorem glob {W : World} (h : laidMetH Tryd.prog laidH W) : Go.Abs.GlobI (Go.Sym.memOf W) := by
  obtain ⟨h0, h1⟩ := of_laid h
  refine ⟨fun μ g => ?_⟩
  by_cases hg : g = 0
  · subst hg
    exact .vptr (.cons (u := .func (.func 65) #[] #[]) h0 (.func .nil .nil) (.cons (u := .func (.func 140) #[] #[]) h1 (.func .nil .nil) .nil))
  · have : Go.Abs.gv g = .bad := by
      unfold Go.Abs.gv Go.Abs.gtab
      have e : (g == 0) = false := by simp [hg]
      simp only [List.lookup, e]
    rw [this]; exact .bad _
end Go.Proofs.YtildjgdhdcoojaaDoor.GlobH
