/- Plans; what an operation depends on. -/
import Derived.Test.YtljmicpaheaemaaAbsAppend
namespace Go.Abs
open Go.RowKit (Below)
set_option linter.unusedSimpArgs false
set_option linter.unusedVariables false

theorem tmGet_set (tm : Tr AV) (d t : Nat) (v : AV) : tmGet (tm.set d v) t = if t = d then v else tmGet tm t := by
  unfold tmGet
  rw [Tr.get_set]
  by_cases h : t = d <;> simp [h]

theorem evalOp_set {tm : Tr AV} {d : Nat} {v : AV} {x : Operand} (h : x ≠ .tmp d) : evalOp (tm.set d v) x = evalOp tm x := by
  cases x with
  | tmp t =>
    have : t ≠ d := fun e => h (by rw [e])
    simp [evalOp, tmGet_set, this]
  | _ => rfl

section
variable {P : Program} {h h' : Heap} {tm tm' : Tr AV} {o : Oper}

theorem map_eval {l : List Operand} (e : ∀ x ∈ l, evalOp tm x = evalOp tm' x) : l.map (evalOp tm) = l.map (evalOp tm') := List.map_congr_left e

theorem alight_congr (e : ∀ x ∈ o.op.operands.toList, evalOp tm x = evalOp tm' x) : alight P h tm o = alight P h tm' o := by
  obtain ⟨dst, op, type, pos, after, guard⟩ := o
  cases op <;> simp only [alight]
  case move x => rw [e x (by simp [Op.operands])]
  case assign x => rw [e x (by simp [Op.operands])]
  case pick c a b => rw [e c (by simp [Op.operands]), e a (by simp [Op.operands]), e b (by simp [Op.operands])]
  case build t parts =>
    congr 1
    refine List.map_congr_left fun p hp => ?_
    rw [e p.2 (by simp [Op.operands]; exact ⟨p.1, by simpa using hp⟩)]
  case load t a => rw [e a (by simp [Op.operands])]
  case nilCheck x => rw [e x (by simp [Op.operands])]
  case binOp op t x y yt => rw [e x (by simp [Op.operands]), e y (by simp [Op.operands])]
  case unOp op t x => rw [e x (by simp [Op.operands])]
  case convert s t x => rw [e x (by simp [Op.operands])]
  case makeInterface t x => rw [e x (by simp [Op.operands])]
  case makeFunc fn first captured =>
    cases fn <;> simp only
    rw [map_eval (tm := tm) (tm' := tm') (fun y hy => e y (by simp [Op.operands]; left; simpa using hy)), map_eval (tm := tm) (tm' := tm') (l := captured.toList) (fun y hy => e y (by simp [Op.operands]; right; simpa using hy))]
  case slice t x lo hi mx =>
    cases mx with
    | some m => rfl
    | none =>
      have h1 : optEval tm lo = optEval tm' lo := by
        cases lo with
        | none => rfl
        | some y => simp [optEval, e y (by simp [Op.operands])]
      have h2 : optEval tm hi = optEval tm' hi := by
        cases hi with
        | none => rfl
        | some y => simp [optEval, e y (by simp [Op.operands])]
      simp only
      rw [e x (by simp [Op.operands]), h1, h2]
  case lookup t x i ok => rw [e x (by simp [Op.operands]), e i (by simp [Op.operands])]
  case fieldAddr t x f => rw [e x (by simp [Op.operands])]
  case field t x f => rw [e x (by simp [Op.operands])]
  case indexAddr t x i => rw [e x (by simp [Op.operands]), e i (by simp [Op.operands])]
  case index t x i => rw [e x (by simp [Op.operands]), e i (by simp [Op.operands])]
  case typeAssert x xt t ok => rw [e x (by simp [Op.operands])]
  case extract x i => rw [e x (by simp [Op.operands])]
  case call c =>
    obtain ⟨callee, args, argTypes⟩ := c
    cases callee <;> simp only
    rename_i b
    have ha : ∀ x ∈ args.toList, evalOp tm x = evalOp tm' x := fun x hx => e x (by simp [Op.operands, Call.operands]; simpa using hx)
    split
    · rename_i x hx
      rw [hx] at ha
      split
      · rw [ha x (by simp)]
      · rfl
    · rename_i x xs hx
      rw [hx] at ha
      rw [ha x (by simp), map_eval (tm := tm) (tm' := tm') (fun y hy => ha y (by simp [hy]))]
    · rename_i x xs hx
      rw [hx] at ha
      rw [ha x (by simp), map_eval (tm := tm) (tm' := tm') (fun y hy => ha y (by simp [hy]))]
    · rfl

theorem afresh_congr {b : Nat} (e : ∀ x ∈ o.op.operands.toList, evalOp tm x = evalOp tm' x) : afresh P b tm o = afresh P b tm' o := by
  obtain ⟨dst, op, type, pos, after, guard⟩ := o
  cases op <;> simp only [afresh]
  case box t x => rw [e x (by simp [Op.operands])]
  case buildSlice t len parts =>
    have : (parts.toList.map fun p => (p.1, evalOp tm p.2)) = (parts.toList.map fun p => (p.1, evalOp tm' p.2)) := by
      refine List.map_congr_left fun p hp => ?_
      rw [e p.2 (by simp [Op.operands]; exact ⟨p.1, by simpa using hp⟩)]
    rw [this]
  case makeSlice t l c => rw [e l (by simp [Op.operands]), e c (by simp [Op.operands])]
  case makeMap t r =>
    cases r with
    | none => rfl
    | some x => simp only; rw [e x (by simp [Op.operands])]

/-- All blocks of h are in h'. -/
def Sub (h h' : Heap) : Prop := ∀ b ob, h.get b = some ob → h'.get b = some ob

theorem rowAt_sub (s : Sub h h') {a : AV} {cs : List AV} (e : rowAt h a = some cs) : rowAt h' a = some cs := by
  cases a <;> simp only [rowAt] at e ⊢ <;> first | exact e | skip
  split at e
  · rename_i q; rw [s _ _ q]; exact e
  · cases e

theorem alight_pure (hr : reads o = false) : alight P h tm o = alight P h' tm o := by
  obtain ⟨dst, op, type, pos, after, guard⟩ := o
  cases op
  case makeFunc fn a b => cases fn <;> rfl
  all_goals first | rfl | (simp [reads] at hr; done)

theorem aslice_sub (s : Sub h h') {t : TypeId} {a v : AV} {lo hi : Option AV} (e : aslice P h t a lo hi = some v) : aslice P h' t a lo hi = some v := by
  unfold aslice at e ⊢
  cases hu : P.underlying t with
  | none => rw [hu] at e; cases e
  | some d =>
    rw [hu] at e
    cases d <;> simp only at e ⊢ <;> first | exact e | skip
    cases a <;> simp only at e ⊢ <;> first | exact e | skip
    rename_i b off
    cases hb : h.get b with
    | none => rw [hb] at e; cases e
    | some ob => rw [s _ _ hb]; rw [hb] at e; exact e

theorem alen_sub (s : Sub h h') {t : TypeId} {a v : AV} (e : alen P h t a = some v) : alen P h' t a = some v := by
  unfold alen at e ⊢
  cases hu : P.underlying t with
  | none => rw [hu] at e; cases e
  | some d =>
    rw [hu] at e
    cases d <;> simp only at e ⊢ <;> first | exact e | skip
    cases a <;> simp only at e ⊢ <;> first | exact e | skip
    rename_i b
    cases hb : h.get b with
    | none => rw [hb] at e; cases e
    | some ob => rw [s _ _ hb]; rw [hb] at e; exact e

theorem entriesOf_sub (s : Sub h h') {a : AV} {es : List AEntry} (e : entriesOf h a = some es) : entriesOf h' a = some es := by
  cases a <;> simp only [entriesOf] at e ⊢ <;> first | exact e | skip
  rename_i b
  cases hb : h.get b with
  | none => rw [hb] at e; cases e
  | some ob => rw [s _ _ hb]; rw [hb] at e; exact e

theorem alookup_sub (s : Sub h h') {t : TypeId} {a i v : AV} {ok : Bool} (e : alookup P h t a i ok = some v) : alookup P h' t a i ok = some v := by
  unfold alookup at e ⊢
  cases hm : mapOf P t with
  | none => rw [hm] at e; cases e
  | some q =>
    rw [hm] at e
    obtain ⟨kt, d, et⟩ := q
    simp only at e ⊢
    cases he : entriesOf h a with
    | none => rw [he] at e; cases e
    | some es => rw [entriesOf_sub s he]; rw [he] at e; exact e

theorem alight_sub (s : Sub h h') {v : AV} (e : alight P h tm o = some v) : alight P h' tm o = some v := by
  obtain ⟨dst, op, type, pos, after, guard⟩ := o
  cases op
  case load t a =>
    simp only [alight, aload] at e ⊢
    cases hr : rowAt h (evalOp tm a) with
    | none => rw [hr] at e; cases e
    | some cs => rw [rowAt_sub s hr]; rw [hr] at e; exact e
  case lookup t x i ok => simp only [alight] at e ⊢; exact alookup_sub s e
  case slice t x lo hi mx =>
    cases mx with
    | some m => simp only [alight] at e; cases e
    | none => simp only [alight] at e ⊢; exact aslice_sub s e
  case call c =>
    obtain ⟨callee, args, argTypes⟩ := c
    cases callee
    case builtin b =>
      simp only [alight] at e ⊢
      generalize args.toList = l at e ⊢
      generalize argTypes.toList = ts at e ⊢
      cases b <;> cases l <;> first | exact e | skip
      rename_i x xs
      cases xs with
      | cons y ys => exact e
      | nil =>
        cases ts with
        | nil => exact e
        | cons t ts => exact alen_sub s e
    all_goals (simp only [alight] at e; cases e)
  all_goals first
    | (rw [← alight_pure (h := h) (h' := h') rfl]; exact e)
    | exact e

theorem AV.beq_eq : ∀ (n : Nat) {x y : AV}, AV.beq n x y = true → x = y := by
  intro n
  induction n with
  | zero => intro x y e; simp [AV.beq] at e
  | succ n ih =>
    have lists : ∀ {a b : List AV}, all2 (AV.beq n) a b = true → a = b := by
      intro a
      induction a with
      | nil => intro b e; cases b <;> simp [all2] at e ⊢
      | cons p a iha =>
        intro b e
        cases b with
        | nil => simp [all2] at e
        | cons q b =>
          simp only [all2, Bool.and_eq_true] at e
          rw [ih e.1, iha e.2]
    intro x y e
    unfold AV.beq at e
    split at e <;> first | rfl | (cases e; done) | skip
    all_goals try simp only [Bool.and_eq_true, decide_eq_true_eq] at e
    · rw [beq_iff_eq.1 e]
    · rw [e.1, e.2]
    · rw [e]
    · rw [beq_tt e.1, beq_tt e.2]
    · rw [lists e]
    · rw [beq_tt e.1.1.1, beq_tt e.1.1.2, beq_tt e.1.2, beq_tt e.2]
    · rw [lists e.1.1, beq_tt e.1.2, beq_tt e.2]
    · rw [beq_tt e]
    · rw [beq_tt e.1.1, lists e.1.2, lists e.2]
    · rw [beq_tt e]
    · rw [beq_tt e.1, ih e.2]
    · rw [lists e]
    · rw [lists e]

end

/-! ### Plans -/
/-- j must come ahead of i. -/
inductive Anc (ops : Array Oper) : Nat → Nat → Prop
  | base {j i : Nat} {o : Oper} : ops[i]? = some o → j ∈ predsOf o → Anc ops j i
  | step {j k i : Nat} {o : Oper} : Anc ops j k → ops[i]? = some o → k ∈ predsOf o → Anc ops j i

structure PlanOk (ops : Array Oper) (plan : List (Nat × List Nat)) : Prop where
  lt : ∀ i ∈ plan.map (·.1), i < ops.size
  nodup : (plan.map (·.1)).Nodup
  all : ∀ i, i < ops.size → i ∈ plan.map (·.1)
  pred : ∀ i o p, ops[i]? = some o → p ∈ predsOf o → p < i
  ord : ∀ pre i c post, plan = pre ++ (i, c) :: post → ∀ o, ops[i]? = some o →
    (∀ p ∈ predsOf o, p ∈ pre.map (·.1)) ∧
    (late o = true → ∃ d, o.dst = some d ∧ d ∉ looks ops o ∧ ∀ k o', ops[k]? = some o' → k ≠ i → d ∈ names ops o' → Anc ops i k) ∧
    (late o = false → (∀ x ∈ post, Anc ops i x.1) ∧
      (∀ k ∈ pre.map (·.1), ∀ o', ops[k]? = some o' → late o' = true → reads o' = true → Anc ops k i ∨ k ∈ c) ∧
      (∀ d, o.dst = some d → ∀ k o', ops[k]? = some o' → late o' = true → d ∈ names ops o' → Anc ops i k ∨ Anc ops k i))

theorem testBit_lor (a b i : Nat) : (Nat.lor a b).testBit i = (a.testBit i || b.testBit i) := Nat.testBit_or a b i

theorem maskOf_spec {ops : Array Oper} {acc ps : List Nat} {i : Nat} {o : Oper} (ho : ops[i]? = some o) (hps : ∀ p ∈ ps, p ∈ predsOf o) (hacc : ∀ k j, (acc.getD k 0).testBit j = true → Anc ops j k) :
    ∀ j, (maskOf acc ps).testBit j = true → Anc ops j i := by
  induction ps with
  | nil => intro j e; simp [maskOf] at e
  | cons p ps ih =>
    intro j e
    have : maskOf acc (p :: ps) = Nat.lor (Nat.lor (2 ^ p) (acc.getD p 0)) (maskOf acc ps) := rfl
    rw [this, testBit_lor, testBit_lor, Bool.or_eq_true, Bool.or_eq_true] at e
    rcases e with (e | e) | e
    · rw [Nat.testBit_two_pow] at e
      simp at e
      subst e
      exact .base ho (hps _ (by simp))
    · exact .step (hacc _ _ e) ho (hps _ (by simp))
    · exact ih (fun q hq => hps q (by simp [hq])) j e

theorem masks_spec {ops : Array Oper} : ∀ (l : List Oper) (acc : List Nat), (∀ i, l[i]? = ops[acc.length + i]?) → (∀ k j, (acc.getD k 0).testBit j = true → Anc ops j k) →
    ∀ k j, ((masks l acc).getD k 0).testBit j = true → Anc ops j k
  | [], acc, _, hacc => hacc
  | o :: l, acc, hl, hacc => by
    simp only [masks]
    have h0 : ops[acc.length]? = some o := by have := hl 0; simpa using this.symm
    refine masks_spec l _ (fun i => ?_) fun k j e => ?_
    · have := hl (i + 1)
      simp only [List.length_append, List.length_cons, List.length_nil]
      rw [show acc.length + (0 + 1) + i = acc.length + (i + 1) from by omega]
      simpa using this
    · by_cases hk : k < acc.length
      · rw [List.getD_eq_getElem?_getD, List.getElem?_append_left hk, ← List.getD_eq_getElem?_getD] at e
        exact hacc k j e
      · by_cases hk' : k = acc.length
        · subst hk'
          rw [List.getD_eq_getElem?_getD, List.getElem?_append_right (by omega)] at e
          simp at e
          exact maskOf_spec h0 (fun p hp => hp) hacc j e
        · rw [List.getD_eq_getElem?_getD, List.getElem?_append_right (by omega), List.getElem?_eq_none (by simp; omega)] at e
          simp at e

theorem distinctL_spec : ∀ {l : List Nat}, distinctL l = true → l.Nodup
  | [], _ => List.nodup_nil
  | x :: xs, e => by
    simp only [distinctL, Bool.and_eq_true, Bool.not_eq_true'] at e
    refine List.nodup_cons.2 ⟨?_, distinctL_spec e.2⟩
    intro hx
    have := List.elem_eq_true_of_mem hx
    rw [List.contains, this] at e
    cases e.1

theorem mem_of_contains {l : List Nat} {x : Nat} (h : l.contains x = true) : x ∈ l := by simpa using h
theorem not_mem_of_contains {l : List Nat} {x : Nat} (h : l.contains x = false) : x ∉ l := by
  intro hx
  have : l.contains x = true := by simpa using hx
  rw [h] at this; cases this

theorem mem_zipIdx_toList {ops : Array Oper} {k : Nat} {o : Oper} (h : ops[k]? = some o) : (o, k) ∈ ops.toList.zipIdx := by
  rw [List.mem_zipIdx_iff_getElem?]
  simpa using h

theorem planTail_spec {ops : Array Oper} {m : List Nat} (hm : ∀ k j, hasBit m k j = true → Anc ops j k) : ∀ (rest : List (Nat × List Nat)) (pre0 : List Nat), planTail ops ops.toList.zipIdx m pre0 rest = true →
    ∀ pre i c post, rest = pre ++ (i, c) :: post → ∀ o, ops[i]? = some o →
    (∀ p ∈ predsOf o, p ∈ pre0 ++ pre.map (·.1)) ∧
    (late o = true → ∃ d, o.dst = some d ∧ d ∉ looks ops o ∧ ∀ k o', ops[k]? = some o' → k ≠ i → d ∈ names ops o' → Anc ops i k) ∧
    (late o = false → (∀ x ∈ post, Anc ops i x.1) ∧
      (∀ k ∈ pre0 ++ pre.map (·.1), ∀ o', ops[k]? = some o' → late o' = true → reads o' = true → Anc ops k i ∨ k ∈ c) ∧
      (∀ d, o.dst = some d → ∀ k o', ops[k]? = some o' → late o' = true → d ∈ names ops o' → Anc ops i k ∨ Anc ops k i)) := by
  intro rest
  induction rest with
  | nil => intro pre0 _ pre i c post e; simp at e
  | cons x rest ih =>
    intro pre0 e pre i c post hr o ho
    obtain ⟨i0, c0⟩ := x
    simp only [planTail, Bool.and_eq_true] at e
    obtain ⟨e1, e2⟩ := e
    cases pre with
    | nil =>
      simp only [List.nil_append, List.cons.injEq, Prod.mk.injEq] at hr
      obtain ⟨⟨rfl, rfl⟩, rfl⟩ := hr
      simp only [List.map_nil, List.append_nil]
      rw [ho] at e1
      simp only [Bool.and_eq_true, List.all_eq_true] at e1
      obtain ⟨e1, e3⟩ := e1
      refine ⟨fun p hp => mem_of_contains (e1 p hp), fun hl => ?_, fun hl => ?_⟩
      · rw [hl] at e3
        simp only [cond_true] at e3
        cases hd : o.dst with
        | none => rw [hd] at e3; cases e3
        | some d =>
          rw [hd] at e3
          simp only [Bool.and_eq_true, List.all_eq_true, Bool.not_eq_true'] at e3
          refine ⟨d, rfl, not_mem_of_contains e3.1, fun k o' hk hne hn => ?_⟩
          have := e3.2 _ (mem_zipIdx_toList hk)
          simp only [Bool.or_eq_true, Bool.not_eq_true'] at this
          rcases this with (q | q) | q
          · exact absurd (beq_tt q) hne
          · exact absurd hn (not_mem_of_contains q)
          · exact hm _ _ q
      · rw [hl] at e3
        simp only [cond_false, Bool.and_eq_true, List.all_eq_true] at e3
        obtain ⟨⟨a1, a2⟩, a3⟩ := e3
        refine ⟨fun x hx => hm _ _ (a1 x hx), fun k hk o' hk' h1 h2 => ?_, fun d hd k o' hk h1 hn => ?_⟩
        · have := a2 k hk
          rw [hk'] at this
          simp only [h1, h2, Bool.not_true, Bool.false_or, Bool.or_eq_true] at this
          rcases this with q | q
          · exact .inl (hm _ _ q)
          · exact .inr (mem_of_contains q)
        · rw [hd] at a3
          simp only [List.all_eq_true] at a3
          have := a3 _ (mem_zipIdx_toList hk)
          simp only [h1, Bool.not_true, Bool.false_or, Bool.or_eq_true, Bool.not_eq_true'] at this
          rcases this with (q | q) | q
          · exact absurd hn (not_mem_of_contains q)
          · exact .inl (hm _ _ q)
          · exact .inr (hm _ _ q)
    | cons y pre =>
      simp only [List.cons_append, List.cons.injEq] at hr
      obtain ⟨rfl, rfl⟩ := hr
      have := ih (pre0 ++ [i0]) e2 pre i c post rfl o ho
      simpa using this

theorem length_le_of_lt : ∀ (n : Nat) (l : List Nat), l.Nodup → (∀ x ∈ l, x < n) → l.length ≤ n
  | 0, l, _, h => by
    cases l with
    | nil => simp
    | cons x xs => have := h x (by simp); omega
  | n + 1, l, hn, h => by
    by_cases hm : n ∈ l
    · have h1 := length_le_of_lt n (l.erase n) (hn.erase n) (fun x hx => by
        have h2 := h x (List.mem_of_mem_erase hx)
        have h3 : x ≠ n := fun q => by subst q; exact (hn.mem_erase_iff.1 hx).1 rfl
        omega)
      rw [List.length_erase_of_mem hm] at h1
      omega
    · have h1 := length_le_of_lt n l hn (fun x hx => by
        have h2 := h x hx
        have h3 : x ≠ n := fun q => hm (q ▸ hx)
        omega)
      omega

theorem planOk_spec {ops : Array Oper} {plan : List (Nat × List Nat)} (e : planOk ops plan = true) : PlanOk ops plan := by
  simp only [planOk, Bool.and_eq_true, List.all_eq_true] at e
  obtain ⟨⟨⟨⟨e1, e2⟩, e3⟩, e4⟩, e5⟩ := e
  have hlt : ∀ i ∈ plan.map (·.1), i < ops.size := fun i hi => blt_lt (e1 i hi)
  have hnd := distinctL_spec e2
  have hm : ∀ k j, hasBit (masks ops.toList []) k j = true → Anc ops j k := by
    intro k j h
    refine masks_spec ops.toList [] (fun i => by simp) (fun k j e => by simp at e) k j ?_
    exact h
  refine ⟨hlt, hnd, fun i hi => ?_, fun i o p ho hp => ?_, fun pre i c post hp o ho => ?_⟩
  · -- a list of distinct numbers below n that is as long as n holds each
    have hlen : (plan.map (·.1)).length = ops.size := by simpa using beq_tt e3
    exact Decidable.byContradiction fun hn => by
      have := length_le_of_lt ops.size (i :: plan.map (·.1)) (List.nodup_cons.2 ⟨hn, hnd⟩) (fun x hx => by
        rcases List.mem_cons.1 hx with rfl | hx
        · exact hi
        · exact hlt x hx)
      simp only [List.length_cons] at this
      omega
  · have := e4 _ (mem_zipIdx_toList ho)
    simp only [List.all_eq_true] at this
    exact blt_lt (this p hp)
  · have := planTail_spec hm plan [] e5 pre i c post hp o ho
    simpa using this

end Go.Abs
