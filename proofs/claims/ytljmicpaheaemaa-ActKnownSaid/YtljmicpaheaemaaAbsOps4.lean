import Derived.Test.YtljmicpaheaemaaAbsOps3
namespace Go.Abs
open Go.RowKit (Below)
section
variable {P : Program} {μ : Mu} {I : Imm} {w0 w : World} {h : Heap}

/-- Values that == looks at by their type. -/
def plainPair : Value → Value → Bool
  | .int _ _, .int _ _ | .float _ _, .float _ _ | .complex _ _ _, .complex _ _ _ | .string _, .string _ => false
  | _, _ => true

theorem binOp_eql {u v : Value} (t : TypeId) (hp : plainPair u v = true) : binOp .eql t u v = (do pure (.bool (← Op.equal t u v))) := by
  cases u <;> cases v <;> first | rfl | cases hp
theorem binOp_neq {u v : Value} (t : TypeId) (hp : plainPair u v = true) : binOp .neq t u v = (do pure (.bool (!(← Op.equal t u v)))) := by
  cases u <;> cases v <;> first | rfl | cases hp

theorem aeqIn_plain {d : Nat} {t : TypeId} {a b : AV} {u v : Value} {r : Bool} (e : aeqIn P d t a b = some r) (r1 : VRel μ I a u) (r2 : VRel μ I b v)
    (n1 : ∀ j m k n, a = .int j m → b = .int k n → False) (n2 : ∀ s s', a = .str s → b = .str s' → False) : plainPair u v = true := by
  have nb : a ≠ .bad ∧ b ≠ .bad := by
    constructor
    · intro q; subst q
      cases d with
      | zero => simp [aeqIn] at e
      | succ d => unfold aeqIn at e; split at e <;> simp at e
    · intro q; subst q
      cases d with
      | zero => simp [aeqIn] at e
      | succ d => unfold aeqIn at e; split at e <;> (try split at e) <;> simp_all
  cases u <;> cases v <;> first | rfl | skip
  · cases r1 with
    | bad => exact absurd rfl nb.1
    | int => cases r2 with
      | bad => exact absurd rfl nb.2
      | int => exact (n1 _ _ _ _ rfl rfl).elim
  · cases r1 with
    | bad => exact absurd rfl nb.1
  · cases r1 with
    | bad => exact absurd rfl nb.1
  · cases r1 with
    | bad => exact absurd rfl nb.1
    | str => cases r2 with
      | bad => exact absurd rfl nb.2
      | str => exact (n2 _ _ rfl rfl).elim

theorem isConst_spec {x : Operand} (h : isConst x = true) : ∃ v, x = .const v := by
  cases x <;> first | exact ⟨_, rfl⟩ | cases h

theorem eqGuard_run {op : BinOp} {t : TypeId} {x y : Operand} {a b : AV} {u v : Value} (ho : op = .eql ∨ op = .neq) (g : guardOk P t x y a b = true) (na : a ≠ .bad) (nb : b ≠ .bad) (r1 : VRel μ I a u) (r2 : VRel μ I b v) (w : World) :
    (eqGuard op t x y u v).run P w = .ok () w := by
  unfold eqGuard
  rcases ho with rfl | rfl
  all_goals
    cases r1 <;> first | exact absurd rfl na | (simp; done) | skip
    · cases r2 <;> first | exact absurd rfl nb | (simp; done) | skip
      simp only [guardOk, Bool.or_eq_true] at g
      rcases g with g | g <;> obtain ⟨c, rfl⟩ := isConst_spec g <;> simp
    · cases r2 <;> first | exact absurd rfl nb | (simp; done) | skip
      simp only [guardOk, Bool.not_eq_true'] at g
      simp [g]

theorem eqGuard_int (op : BinOp) (t : TypeId) (x y : Operand) (j k : IntKind) (m n : Int) (w : World) : (eqGuard op t x y (.int j m) (.int k n)).run P w = .ok () w := by
  unfold eqGuard; cases op <;> simp
theorem eqGuard_str (op : BinOp) (t : TypeId) (x y : Operand) (m n : ByteArray) (w : World) : (eqGuard op t x y (.string m) (.string n)).run P w = .ok () w := by
  unfold eqGuard; cases op <;> simp

theorem abin_run {op : BinOp} {t : TypeId} {x y : Operand} {a b v : AV} {u u' : Value} (e : abin P op t x y a b = some v) (r1 : VRel μ I a u) (r2 : VRel μ I b u') (w : World) :
    ∃ z, (do eqGuard op t x y u u'; binOp op t u u' : Sem Value).run P w = .ok z w ∧ VRel μ I v z := by
  unfold abin at e
  split at e
  · rename_i j m k n
    cases r1; cases r2
    simp only [Sem.run_bind, eqGuard_int, Result.andThen_ok]
    split at e
    · obtain ⟨h0, e'⟩ := cond_none e
      simp at h0 e'
      subst e'
      refine ⟨_, by simp [binOp, Op.shift, Int.not_lt.2 h0]; rfl, ?_⟩
      rw [awrap_eq]; exact .int _ _
    · obtain ⟨h0, e'⟩ := cond_none e
      simp at h0 e'
      subst e'
      exact ⟨_, by simp [binOp, Op.shift, Int.not_lt.2 h0], .int _ _⟩
    · rename_i h1 h2
      obtain ⟨hk, e'⟩ := cond_some e
      simp at hk
      subst hk
      obtain ⟨z, h3, h4⟩ := abinInt_run (P := P) (μ := μ) (I := I) e' ⟨h1, h2⟩ w
      exact ⟨z, by rw [binOp_int_type op t 0]; exact h3, h4⟩
  · cases r1; cases r2
    obtain ⟨z, h1, h2⟩ := pureV_run (P := P) (μ := μ) (I := I) e w
    refine ⟨z, ?_, h2⟩
    simp only [Sem.run_bind, eqGuard_str, Result.andThen_ok]
    rw [← h1]
    cases op <;> rfl
  · cases e
  · cases e
  · rename_i n3 n4 n1 n2
    split at e
    · obtain ⟨hg, e'⟩ := cond_some e
      cases hq : aeqIn P 10000 t a b with
      | none => rw [hq] at e'; simp at e'
      | some r =>
        rw [hq] at e'
        simp at e'
        subst e'
        have hp := aeqIn_plain hq r1 r2 (fun j m k n q q' => n1 j m k n q q') (fun s s' q q' => n2 s s' q q')
        refine ⟨.bool r, ?_, .bool _⟩
        rw [Sem.run_bind, eqGuard_run (by simp) hg (fun q => n3 q) (fun q => n4 q) r1 r2 w, Result.andThen_ok, binOp_eql t hp]
        simp [Op.equal, Op.maxDepth, aeqIn_run 10000 hq r1 r2 w]
    · obtain ⟨hg, e'⟩ := cond_some e
      cases hq : aeqIn P 10000 t a b with
      | none => rw [hq] at e'; simp at e'
      | some r =>
        rw [hq] at e'
        simp at e'
        subst e'
        have hp := aeqIn_plain hq r1 r2 (fun j m k n q q' => n1 j m k n q q') (fun s s' q q' => n2 s s' q q')
        refine ⟨.bool (!r), ?_, .bool _⟩
        rw [Sem.run_bind, eqGuard_run (by simp) hg (fun q => n3 q) (fun q => n4 q) r1 r2 w, Result.andThen_ok, binOp_neq t hp]
        simp [Op.equal, Op.maxDepth, aeqIn_run 10000 hq r1 r2 w]
    · cases e

/-! ### Literals -/
theorem VRels.splice {cs vs : List AV} {us xs : List Value} {off : Nat} (r : VRels μ I cs us) (q : VRels μ I vs xs) :
    VRels μ I (splice cs off vs) (us.take off ++ xs ++ us.drop (off + xs.length)) := by
  unfold Abs.splice
  rw [q.length]
  exact ((r.take off).append q).append (r.drop _)

theorem foldl_set (xs : List Value) : ∀ (k off : Nat) (us : Array Value), off + k + xs.length ≤ us.size →
    ((xs.zipIdx k).foldl (fun cs (c, j) => cs.setIfInBounds (off + j) c) us).toList = us.toList.take (off + k) ++ xs ++ us.toList.drop (off + k + xs.length) := by
  induction xs with
  | nil => intro k off us hl; simp
  | cons x xs ih =>
    intro k off us hl
    simp only [List.zipIdx_cons, List.foldl_cons]
    simp only [List.length_cons] at hl
    rw [ih (k + 1) off (us.setIfInBounds (off + k) x) (by simp; omega)]
    simp only [Array.toList_setIfInBounds]
    have hlt : off + k < us.toList.length := by simp; omega
    rw [show off + (k + 1) = off + k + 1 from by omega]
    rw [List.take_succ_eq_append_getElem (by simp; omega)]
    simp only [List.getElem_set_self, List.append_assoc, List.cons_append, List.nil_append, List.length_cons]
    rw [List.take_set_of_le (Nat.le_refl _), List.drop_set_of_lt (by omega)]
    rw [show off + k + 1 + xs.length = off + k + (xs.length + 1) from by omega]

theorem foldl_set_array (xs us : Array Value) (off : Nat) (hl : off + xs.size ≤ us.size) :
    (xs.zipIdx.foldl (fun cs (c, j) => cs.setIfInBounds (off + j) c) us).toList = us.toList.take off ++ xs.toList ++ us.toList.drop (off + xs.size) := by
  rw [← Array.foldl_toList, Array.toList_zipIdx]
  have := foldl_set xs.toList 0 off us (by simpa using hl)
  simpa using this

/-- Parts, each with its value. -/
inductive PRels (μ : Mu) (I : Imm) : List (Nat × AV) → List (Nat × Value) → Prop
  | nil : PRels μ I [] []
  | cons {i : Nat} {a : AV} {v : Value} {l : List (Nat × AV)} {m : List (Nat × Value)} : VRel μ I a v → PRels μ I l m → PRels μ I ((i, a) :: l) ((i, v) :: m)

theorem PRels.map {f : Operand → AV} {g : Operand → Value} : ∀ {l : List (Nat × Operand)}, (∀ p ∈ l, VRel μ I (f p.2) (g p.2)) → PRels μ I (l.map fun p => (p.1, f p.2)) (l.map fun p => (p.1, g p.2))
  | [], _ => .nil
  | (i, x) :: l, h => .cons (h _ (by simp)) (PRels.map fun p hp => h p (by simp [hp]))

theorem afill_run {place : Nat → Option (Nat × Nat)} : ∀ {parts : List (Nat × AV)} {parts' : List (Nat × Value)} {cells out : List AV} {cells' : Array Value},
    afill place cells parts = some out → PRels μ I parts parts' → VRels μ I cells cells'.toList →
    ∃ out', Instr.fill place cells' parts' = some out' ∧ VRels μ I out out'.toList
  | [], _, cells, out, cells', e, .nil, r => by simp [afill] at e; subst e; exact ⟨cells', rfl, r⟩
  | (i, a) :: rest, _, cells, out, cells', e, .cons (v := v) q qs, r => by
    unfold afill at e
    have hb : a ≠ .bad := by intro hq; subst hq; simp at e
    have e : (match place i with
      | none => none
      | some (off, size) => cond (Nat.beq a.cells.length size && Nat.ble (off + a.cells.length) cells.length) (afill place (Abs.splice cells off a.cells) rest) none) = some out := by
      cases a <;> first | exact absurd rfl hb | exact e
    unfold Instr.fill
    cases hp : place i with
    | none => rw [hp] at e; cases e
    | some os =>
      obtain ⟨off, size⟩ := os
      rw [hp] at e
      simp only at e
      obtain ⟨hc, e⟩ := cond_some e
      simp only [Bool.and_eq_true] at hc
      have h1 := beq_tt hc.1
      have h2 := Nat.le_of_ble_eq_true hc.2
      have qc := q.cells hb
      have l1 := qc.length
      have l2 := r.length
      simp only [Array.length_toList] at l1 l2
      have hno : (decide (v.cells.size ≠ size) || decide (off + v.cells.size > cells'.size)) = false := by
        simp; omega
      simp only [hno, Bool.false_eq_true, if_false]
      refine afill_run e qs ?_
      rw [foldl_set_array _ _ _ (by omega)]
      have := r.splice (off := off) qc
      simpa using this

theorem placesOf_run : ∀ {fields : List Field} {l : List (Nat × Nat)}, placesOf P fields = some l → ∀ w : World, (fields.mapM fun f => do pure (f.offset, ← sizeOf f.type) : Sem (List (Nat × Nat))).run P w = .ok l w
  | [], l, e, w => by simp [placesOf] at e; subst e; simp
  | f :: fs, l, e, w => by
    unfold placesOf at e
    cases h1 : sizeT P f.type with
    | none => rw [h1] at e; cases e
    | some s =>
      rw [h1] at e
      cases h2 : placesOf P fs with
      | none => rw [h2] at e; cases e
      | some m =>
        rw [h2] at e
        simp at e
        subst e
        have ih := placesOf_run h2 w
        simp only [List.mapM_cons, Sem.run_bind, run_sizeOf h1, Result.andThen_ok, Sem.run_pure, ih]

theorem abuild_run {t : TypeId} {parts : List (Nat × AV)} {parts' : Array (Nat × Value)} {v : AV} (e : abuild P t parts = some v) (q : PRels μ I parts parts'.toList) (w : World) :
    ∃ u, (Instr.build t parts').run P w = .ok u w ∧ VRel μ I v u := by
  unfold abuild at e
  unfold Instr.build
  cases hz : zeroA P t with
  | none => rw [hz] at e; cases e
  | some z =>
    rw [hz] at e
    obtain ⟨i, zv, hi, hzv, rfl, hrun⟩ := run_zeroValue (P := P) hz w
    cases hu : P.underlying t with
    | none => rw [hu] at e; split at e <;> cases e
    | some d =>
      rw [hu] at e
      have hr : VRel μ I (ofV zv) zv := ofV_rel zv
      split at e
      case h_2 => cases e
      rename_i zc hzc
      simp at hzc
      rw [hzc] at hr
      have hzc' : VRels μ I zc zv.cells.toList := hr.cells (by simp)
      cases d <;> simp only at e <;> try cases e
      case array n elem =>
        cases hs : sizeT P elem with
        | none => rw [hs] at e; cases e
        | some s =>
          rw [hs] at e
          simp only at e
          cases hf : afill (fun i => some (i * s, s)) zc parts with
          | none => rw [hf] at e; cases e
          | some out =>
            rw [hf] at e
            simp at e
            subst e
            obtain ⟨out', h1, h2⟩ := afill_run hf q hzc'
            exact ⟨.agg out', by simp [hrun, run_underlying hu, run_sizeOf hs, h1], .agg h2⟩
      case struct fields =>
        cases hp : placesOf P fields.toList with
        | none => rw [hp] at e; cases e
        | some l =>
          rw [hp] at e
          simp only at e
          cases hf : afill (fun i => l[i]?) zc parts with
          | none => rw [hf] at e; cases e
          | some out =>
            rw [hf] at e
            simp at e
            subst e
            obtain ⟨out', h1, h2⟩ := afill_run hf q hzc'
            refine ⟨.agg out', ?_, .agg h2⟩
            have hm := placesOf_run (P := P) hp w
            simp only [Sem.run_bind, hrun, Result.andThen_ok, run_underlying hu]
            rw [Array.mapM_eq_mapM_toList]
            simp only [Sem.run_map, hm, Result.andThen_ok]
            simp [h1]

end
end Go.Abs
