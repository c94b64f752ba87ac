import Derived.Test.YtljmicpaheaemaaAbsCall
namespace Go.Abs
open Go.RowKit (Below)
set_option linter.unusedSimpArgs false
set_option linter.unusedVariables false
section
variable {P : Program} {μ μ' : Mu} {I : Imm} {h h' : Heap} {w0 w w' : World}

theorem todo_no_call {act : Bool} {lo hi : Nat} {todo : List AItem} {tm : Tr AV} {todoc : List Item} {tmps : Array Value} (r : TodoRel P μ I h act lo hi todo tm todoc tmps) : ∀ d b s v k, todoc ≠ .call d b s v :: k := by
  intro d b s v k e
  subst e
  cases r with
  | plain a b => cases a with | cons a b => cases a

theorem raise_fn (c : Frame) (u : List PanicEntry) : (c.raise u).fn = c.fn := by unfold Frame.raise; split <;> rfl

theorem cut_rel {todo : List AItem} {tm : Tr AV} {tmps : Array Value} (ht : TRel μ I tm tmps) : TRel μ I (cutTm todo tm) tmps := by
  unfold cutTm
  split
  · intro t v e; simp [Tr.get_nil] at e
  · exact ht
theorem cut_todo {act : Bool} {lo hi : Nat} {todo : List AItem} {tm : Tr AV} {todoc : List Item} {tmps : Array Value} (r : TodoRel P μ I h act lo hi todo tm todoc tmps) : TRel μ I (cutTm todo tm) tmps := by
  cases r with
  | plain a b => exact cut_rel b
  | drawn a b d => intro t v e; simp [cutTm, Tr.get_nil] at e

/-- A panic comes to a frame. -/
theorem raise_sim {lo hi : Nat} {act act' : Bool} {lo' hi' : Nat} {f : AFrame} {c : Frame} {a : List APanic} {b : List PanicEntry} (r : FRel P μ I h act lo hi f c) (q : ChRel μ I a b) : FRel P μ I h act' lo' hi' (araise f a) (c.raise b) := by
  obtain ⟨r1, r2, r3, r4, r5, r6, r7⟩ := r
  obtain ⟨fn, nt, tm, todo, defers, mode, deferred, roundOf⟩ := f
  simp only at r1 r2 r3 r4 r5 r6 r7
  have hcut : ∀ {tm}, TRel μ I tm c.tmps → TRel μ I (cutTm todo tm) c.tmps := fun ht => cut_rel ht
  have main : ∀ (b' : List PanicEntry) (a' : List APanic), (c.raise b).mode = .panicking b' → ChRel μ I a' b' → (c.raise b).fn = c.fn → (c.raise b).kind = c.kind → (c.raise b).roundOf = c.roundOf → (c.raise b).defers = c.defers → (c.raise b).tmps = c.tmps →
      TRel μ I (cutTm todo tm) c.tmps → FRel P μ I h act' lo' hi' { fn, nt, tm := cutTm todo tm, todo, defers, mode := .panicking a', deferred, roundOf } (c.raise b) := by
    intro b' a' e1 e2 e3 e4 e5 e6 e7 e8
    exact ⟨e3.trans r1, r2, e4.trans r3, by rw [e5]; exact r4, by rw [e6]; exact r5, by rw [e7]; exact r6, .pan e1 e2 (by rw [e7]; exact e8)⟩
  cases r7 with
  | run hm ht =>
    have e : ∀ {x}, c.raise b = x → x = { c with mode := .panicking b } := fun h => by rw [← h]; simp [Frame.raise, hm]
    refine main b a (by simp [Frame.raise, hm]) q ?_ ?_ ?_ ?_ ?_ (cut_todo ht) <;> simp [Frame.raise, hm]
  | ret hm ht =>
    refine main b a (by simp [Frame.raise, hm]) q ?_ ?_ ?_ ?_ ?_ (hcut ht) <;> simp [Frame.raise, hm]
  | pan hm hc ht =>
    rename_i a' b'
    refine main (b ++ b') (a ++ a') (by simp [Frame.raise, hm]) (q.append hc) ?_ ?_ ?_ ?_ ?_ (hcut ht) <;> simp [Frame.raise, hm]

theorem RoundRel.none_inv {x : Option Nat} (r : RoundRel μ Option.none x) : x = Option.none := by cases r; rfl

theorem apply_enter {c : Frame} {cs : List Frame} {s : Sem Next} {g : FuncId} {as' : Array Value} (hno : ∀ d b s v k, c.todo ≠ .call d b s v :: k) (h1 : s.run P w = .ok (.enter g as') w') :
    (stepG.apply P true c cs none s w).bare = .go { frame := Frame.enter P g as' .normal, callers := c :: cs, status := .running, dying := none } w' := by
  obtain ⟨fn, tmps, todo, defers, mode, kind, roundOf⟩ := c
  cases todo with
  | nil => simp [stepG.apply, h1]
  | cons it k => cases it <;> first | exact absurd rfl (hno _ _ _ _ _) | simp [stepG.apply, h1]

theorem apply_sim (K : ProgOk P) {f : AFrame} {c : Frame} {callers : List AFrame} {cs tl : List Frame} {n : ANext} {args : List AV} {m' : AMach} {lo hi : Nat} {s : Sem Next} (hap : apply P f callers n h' args = some m')
    (hm : f.mode = .run) (hF : FRel P μ' I h' false lo hi f c) (hlo : lo ≤ hi) (hhi : hi ≤ h'.next) (hS : Stack P μ' I h' lo callers cs) (hW : WRel μ' I w0 h' w') (hR : HR P μ' I n args (s.run P w) w') :
    ∃ c' cs' w'', (stepG.apply P true c (cs ++ tl) none s w).bare = .go { frame := c', callers := cs' ++ tl, status := .running, dying := none } w'' ∧ MRel P μ' I w0 m' c' cs' w'' := by
  have hno : ∀ d b s v k, c.todo ≠ .call d b s v :: k := by
    have hst := hF.st
    rw [hm] at hst
    cases hst with
    | run a b => exact todo_no_call b
  have hcm : c.mode = .run := by
    have hst := hF.st
    rw [hm] at hst
    cases hst with | run a b => exact a
  -- a value
  have value : ∀ {f : AFrame} {c : Frame} {v : AV} {u : Value} {w'' : World} {callers : List AFrame} {cs : List Frame}, f.mode = .run → FRel P μ' I h' false lo hi f c → Stack P μ' I h' lo callers cs → WRel μ' I w0 h' w'' → VRel μ' I v u →
      ∀ {f'}, afinish P h' f v = some f' → MRel P μ' I w0 { fr := f', callers, h := h' } (c.finish u) cs w'' := by
    intro f c v u w'' callers cs hm hF hS hW hv f' e
    exact ⟨⟨lo, Nat.le_trans hlo hhi, (finish_sim e hm hF hv).widen (Nat.le_refl _) hhi, hS⟩, hW⟩
  cases n with
  | value v =>
    obtain ⟨u, h1, h2⟩ := hR
    simp only [apply] at hap
    cases he : afinish P h' f v with
    | none => rw [he] at hap; cases hap
    | some f' =>
      rw [he] at hap
      simp at hap
      subst hap
      refine ⟨c.finish u, cs, w', ?_, value hm hF hS hW h2 he⟩
      rcases h1 with h1 | ⟨h1, rfl⟩ <;> simp [stepG.apply, h1]
  | enter g as_ =>
    obtain ⟨as', h1, h2⟩ := hR
    simp only [apply] at hap
    cases he : enter P g as_ false with
    | none => rw [he] at hap; cases hap
    | some f' =>
      rw [he] at hap
      simp at hap
      subst hap
      have hE := enter_rel he h2 true h'.next h'.next h'
      simp only [Bool.false_eq_true, if_false] at hE
      refine ⟨_, c :: cs, w', ?_, ⟨⟨h'.next, Nat.le_refl _, hE, .cons (hF.widen (Nat.le_refl _) hhi) (by omega) hS⟩, hW⟩⟩
      exact apply_enter hno h1
  | round l =>
    obtain ⟨B, o, N, as', hmu, h1, h2⟩ := hR
    simp only [apply] at hap
    cases hg : getLoop h' l with
    | none => rw [hg] at hap; cases hap
    | some r =>
      rw [hg] at hap
      simp only at hap
      split at hap
      case h_2 => cases hap
      case h_1 fn hfn =>
      cases he : roundFrame l r args with
      | none => rw [he] at hap; cases hap
      | some f' =>
        rw [he] at hap
        simp at hap
        subst hap
        have hgl : h'.get l = some (.loop r) := by
          unfold getLoop at hg
          split at hg
          · rename_i q; cases hg; exact q
          · cases hg
        obtain ⟨obj, ho, hor⟩ := hW.objs _ _ _ _ _ hgl hmu
        cases hor with
        | loop hl =>
          rename_i L
          obtain ⟨k1, k2⟩ := round_rel (P := P) hmu hl he h2 ⟨fn, hfn⟩ true h'.next h'.next h'
          refine ⟨_, c :: cs, w', ?_, ⟨⟨h'.next, Nat.le_refl _, k2, .cons (hF.widen (Nat.le_refl _) hhi) (by omega) hS⟩, hW⟩⟩
          rw [run_yield ho k1] at h1
          simp [stepG.apply, h1]
  | defer d =>
    obtain ⟨d', h1, h2⟩ := hR
    simp only [apply] at hap
    split at hap
    case h_2 => cases hap
    case h_1 hro =>
    cases he : afinish P h' { f with defers := d :: f.defers } .bad with
    | none => rw [he] at hap; cases hap
    | some f' =>
      rw [he] at hap
      simp at hap
      subst hap
      have hF' : FRel P μ' I h' false lo hi { f with defers := d :: f.defers } { c with defers := d' :: c.defers } := by
        refine ⟨hF.fn, hF.has, hF.kind, hF.round, .cons h2 hF.defers, hF.size, ?_⟩
        have hst := hF.st
        simp only
        rw [hm] at hst ⊢
        cases hst with
        | run a b => exact .run a b
      refine ⟨_, cs, w', ?_, value (c := { c with defers := d' :: c.defers }) (u := undef) (by exact hm) hF' hS hW (.bad _) he⟩
      simp [stepG.apply, h1]
  | recover =>
    have h1 : s.run P w = .ok .recover w' := hR
    simp only [apply] at hap
    split at hap
    case h_2 => cases hap
    case h_1 hro =>
    have hcr : c.roundOf = none := by
      have := hF.round
      rw [hro] at this
      exact this.none_inv
    split at hap
    case h_2 => cases hap
    case h_1 c1 rest hd =>
    have hck : c.kind = .deferred := by rw [hF.kind, hd]; rfl
    cases hS with
    | cons hF1 hlo1 hS1 =>
    rename_i lo1 cc cs1
    split at hap
    · rename_i v older hmode
      cases he : afinish P h' f v with
      | none => rw [he] at hap; cases hap
      | some f' =>
        rw [he] at hap
        simp at hap
        subst hap
        have hst := hF1.st
        rw [hmode] at hst
        cases hst with
        | pan z1 z2 z3 =>
          cases z2 with
          | cons hv z2 =>
            rename_i u oc
            refine ⟨c.finish u, { cc with mode := .panicking ({ v := u, recovered := true } :: oc) } :: cs1, w', ?_, ?_⟩
            · simp [stepG.apply, h1, hcr, tryRecover, hck, z1]
            · refine ⟨⟨lo, Nat.le_trans hlo hhi, (finish_sim he hm hF hv).widen (Nat.le_refl _) hhi, .cons ⟨hF1.fn, hF1.has, hF1.kind, hF1.round, hF1.defers, hF1.size, ?_⟩ hlo1 hS1⟩, hW⟩
              exact .pan rfl (.cons hv z2) z3
    · rename_i hno
      cases he : afinish P h' f .nili with
      | none => rw [he] at hap; cases hap
      | some f' =>
        rw [he] at hap
        simp at hap
        subst hap
        refine ⟨c.finish .nilIface, cc :: cs1, w', ?_, value hm hF (.cons hF1 hlo1 hS1) hW .nili he⟩
        have : tryRecover c (cc :: cs1 ++ tl) = none := by
          simp only [List.cons_append, tryRecover, hck]
          have hst := hF1.st
          cases hmode : c1.mode with
          | run => rw [hmode] at hst; cases hst with | run z1 z2 => rw [z1]
          | returning => rw [hmode] at hst; cases hst with | ret z1 z2 => rw [z1]
          | panicking ch =>
            rw [hmode] at hst
            cases hst with
            | pan z1 z2 z3 =>
              rw [z1]
              cases z2 with
              | nil => rfl
              | cons hv z2 =>
                rename_i v u rr a b
                cases rr with
                | true => rfl
                | false => exact absurd hmode (hno _ _)
        rw [List.cons_append] at this ⊢
        simp [stepG.apply, h1, hcr, this]
  | panic v =>
    obtain ⟨u, h1, h2⟩ := hR
    simp only [apply] at hap
    split at hap
    case h_2 => cases hap
    case h_1 t x =>
    simp at hap
    subst hap
    refine ⟨c.raise [{ v := u, recovered := false }], cs, w', by simp [stepG.apply, h1], ⟨⟨lo, Nat.le_trans hlo hhi, raise_sim hF (.cons h2 .nil), hS⟩, hW⟩⟩

end
end Go.Abs
