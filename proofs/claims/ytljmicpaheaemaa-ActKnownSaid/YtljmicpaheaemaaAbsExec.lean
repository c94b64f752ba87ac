import Derived.Test.YtljmicpaheaemaaAbsStep
namespace Go.Abs
open Go.RowKit (Below)
set_option linter.unusedSimpArgs false
set_option linter.unusedVariables false
section
variable {P : Program} {μ μ' : Mu} {I : Imm} {h h' : Heap} {w0 w w' : World}

theorem ChRel.drop {a : List APanic} {b : List PanicEntry} (r : ChRel μ I a b) : b.dropWhile (!·.goexit) = [] := by
  induction r with
  | nil => rfl
  | cons _ _ ih => simp only [List.dropWhile, Bool.not_false]; exact ih

/-- A frame is left with a value. -/
theorem areturn_sim {f : AFrame} {callers : List AFrame} {cs tl : List Frame} {v : AV} {m' : AMach} {lo : Nat} {u : Value} (e : areturn P f callers v h = some m') (hlo : lo ≤ h.next) (hS : Stack P μ I h lo callers cs) (hW : WRel μ I w0 h w) (hv : VRel μ I v u) :
    ∃ cc cs', cs = cc :: cs' ∧ (f.deferred = false → MRel P μ I w0 m' (cc.finish u) cs' w) ∧
      (f.deferred = true → MRel P μ I w0 m' (match cc.mode with
        | .panicking ({ recovered := true, .. } :: older) => (match older.dropWhile (!·.goexit) with
          | [] => { cc with mode := .returning }
          | rest => { cc with mode := .panicking rest })
        | _ => cc) cs' w) := by
  unfold areturn at e
  cases callers with
  | nil => cases e
  | cons c1 rest =>
    cases hS with
    | cons hF1 hlo1 hS1 =>
    rename_i lo1 cc cs'
    refine ⟨cc, cs', rfl, fun hd => ?_, fun hd => ?_⟩
    · rw [hd] at e
      simp only [cond_false] at e
      split at e
      case h_2 => cases e
      case h_1 hm =>
      split at e
      case h_2 => cases e
      case h_1 c1' he =>
      simp at e
      subst e
      exact ⟨⟨lo1, Nat.le_trans hlo1 hlo, (finish_sim he hm hF1 hv).widen (Nat.le_refl _) hlo, hS1⟩, hW⟩
    · rw [hd] at e
      simp only [cond_true] at e
      have hst := hF1.st
      -- the caller is not amid an operation: its mode is that of an ending frame, or it waits
      split at e
      · rename_i v0 ch hm
        simp at e
        subst e
        rw [hm] at hst
        cases hst with
        | pan z1 z2 z3 =>
          cases z2 with
          | cons q1 q2 =>
            rename_i oc
            rw [z1]
            have : oc.dropWhile (!·.goexit) = [] := q2.drop
            simp only [this]
            exact ⟨⟨lo1, Nat.le_trans hlo1 hlo, ⟨hF1.fn, hF1.has, hF1.kind, hF1.round, hF1.defers, hF1.size, .ret rfl z3⟩, hS1⟩, hW⟩
      · cases e
      · rename_i hno hnr
        simp at e
        subst e
        have hcc : (match cc.mode with
            | .panicking ({ recovered := true, .. } :: older) => (match older.dropWhile (!·.goexit) with
              | [] => { cc with mode := .returning }
              | rest => { cc with mode := .panicking rest })
            | _ => cc) = cc := by
          cases hm : c1.mode with
          | run => exact absurd hm hnr
          | returning => rw [hm] at hst; cases hst with | ret z1 z2 => rw [z1]
          | panicking ch =>
            rw [hm] at hst
            cases hst with
            | pan z1 z2 z3 =>
              rw [z1]
              cases z2 with
              | nil => rfl
              | cons q1 q2 =>
                rename_i v u rr a b
                cases rr with
                | false => rfl
                | true => exact absurd hm (hno _ _)
        rw [hcc]
        refine ⟨⟨lo1, Nat.le_trans hlo1 hlo, ⟨hF1.fn, hF1.has, hF1.kind, hF1.round, hF1.defers, hF1.size, ?_⟩, hS1⟩, hW⟩
        cases hm : c1.mode with
        | run => exact absurd hm hnr
        | returning => rw [hm] at hst; cases hst with | ret z1 z2 => exact .ret z1 z2
        | panicking ch => rw [hm] at hst; cases hst with | pan z1 z2 z3 => exact .pan z1 z2 z3


end
end Go.Abs
