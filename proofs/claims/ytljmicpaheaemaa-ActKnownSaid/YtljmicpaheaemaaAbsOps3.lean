import Derived.Test.YtljmicpaheaemaaAbsOps2
import Derived.IntWalk
namespace Go.Abs
open Go.RowKit (Below)
section
variable {P : Program} {μ : Mu} {I : Imm} {w0 w : World} {h : Heap}

theorem blt_lt {a b : Nat} (h : Nat.blt a b = true) : a < b := Nat.le_of_ble_eq_true h

theorem cond_wrap {α : Type} {b : Bool} {x y : α} (h : b = true → x = y) : cond b x y = y := by cases b <;> simp_all
theorem wrap_i64_nn {m M : Nat} (h : Nat.blt m M = true) (hM : (M : Int) = 9223372036854775808) : Int.ofNat m = IntKind.i64.wrap (Int.ofNat m) := by
  have := blt_lt h
  exact (IntWalk.i64_in _ (by simp; omega)).symm
theorem wrap_i64_neg {m M : Nat} (h : Nat.blt m M = true) (hM : (M : Int) = 9223372036854775808) : Int.negSucc m = IntKind.i64.wrap (Int.negSucc m) := by
  have := blt_lt h
  exact (IntWalk.i64_in _ (by omega)).symm
theorem wrap_u64_nn {m M : Nat} (h : Nat.blt m M = true) (hM : (M : Int) = 18446744073709551616) : Int.ofNat m = IntKind.u64.wrap (Int.ofNat m) := by
  have := blt_lt h
  exact (IntWalk.u64_in _ (by simp; omega)).symm
theorem awrap_eq (k : IntKind) (n : Int) : awrap k n = k.wrap n := by
  unfold awrap
  split
  · exact cond_wrap fun h => wrap_i64_nn h (by omega)
  · exact cond_wrap fun h => wrap_i64_neg h (by omega)
  · exact cond_wrap fun h => wrap_u64_nn h (by omega)
  · rfl

theorem beq_bytes (a b : ByteArray) : (a == b) = decide (a = b) := by
  rw [beq_toListBytes, Bool.eq_iff_iff, beq_iff_eq, ByteArray.toList_eq, ByteArray.toList_eq, decide_eq_true_iff]
  constructor
  · intro h; cases a; cases b; congr; exact Array.ext' h
  · intro h; rw [h]

theorem pureV_run {s : Sem Value} {v : AV} (e : pureV s = some v) (w : World) : ∃ u, s.run P w = .ok u w ∧ VRel μ I v u := by
  cases s <;> simp [pureV] at e
  subst e
  exact ⟨_, rfl, ofV_rel _⟩

theorem abinInt_run {op : BinOp} {k : IntKind} {a b : Int} {v : AV} (e : abinInt op k a b = some v) (hop : op ≠ .shl ∧ op ≠ .shr) (w : World) :
    ∃ u, (binOp op (0 : TypeId) (.int k a) (.int k b)).run P w = .ok u w ∧ VRel μ I v u := by
  cases op <;> simp only [abinInt] at e
  case shl => exact absurd rfl hop.1
  case shr => exact absurd rfl hop.2
  case add => simp at e; subst e; exact ⟨_, by simp [binOp, Op.intArith]; rfl, by rw [awrap_eq]; exact .int _ _⟩
  case sub => simp at e; subst e; exact ⟨_, by simp [binOp, Op.intArith]; rfl, by rw [awrap_eq]; exact .int _ _⟩
  case mul => simp at e; subst e; exact ⟨_, by simp [binOp, Op.intArith]; rfl, by rw [awrap_eq]; exact .int _ _⟩
  case quo =>
    obtain ⟨h0, e⟩ := cond_none e
    simp at h0 e
    subst e
    exact ⟨_, by simp [binOp, Op.intDiv, h0]; rfl, by rw [awrap_eq]; exact .int _ _⟩
  case rem =>
    obtain ⟨h0, e⟩ := cond_none e
    simp at h0 e
    subst e
    exact ⟨_, by simp [binOp, Op.intDiv, h0], .int _ _⟩
  case eql => simp at e; subst e; exact ⟨.bool (a == b), by simp [binOp, Op.intCmp], .bool _⟩
  case neq => simp at e; subst e; exact ⟨.bool (a != b), by simp [binOp, Op.intCmp], by rw [show (a != b) = !decide (a = b) from rfl]; exact .bool _⟩
  case lss => simp at e; subst e; exact ⟨_, by simp [binOp, Op.intCmp], .bool _⟩
  case leq => simp at e; subst e; exact ⟨_, by simp [binOp, Op.intCmp], .bool _⟩
  case gtr => simp at e; subst e; exact ⟨_, by simp [binOp, Op.intCmp], .bool _⟩
  case geq => simp at e; subst e; exact ⟨_, by simp [binOp, Op.intCmp], .bool _⟩
  all_goals
    obtain ⟨u, h1, h2⟩ := pureV_run (P := P) (μ := μ) (I := I) e w
    exact ⟨u, by simp [binOp]; exact h1, h2⟩

theorem binOp_int_type (op : BinOp) (t t' : TypeId) (j k : IntKind) (a b : Int) : binOp op t (.int j a) (.int k b) = binOp op t' (.int j a) (.int k b) := by
  cases op <;> rfl

set_option maxHeartbeats 2000000 in
theorem aeqIn_run : ∀ (d : Nat) {t : TypeId} {x y : AV} {u v : Value} {b : Bool}, aeqIn P d t x y = some b → VRel μ I x u → VRel μ I y v → ∀ w : World, (Op.equalIn d t u v).run P w = .ok b w := by
  intro d
  induction d with
  | zero => intro t x y u v b e; simp [aeqIn] at e
  | succ d ih =>
    intro t x y u v b e r1 r2 w
    unfold aeqIn at e
    cases hu : P.underlying t with
    | none => rw [hu] at e; cases e
    | some td =>
      rw [hu] at e
      cases td <;> simp only at e <;> try cases e
      case bool =>
        split at e <;> cases e
        cases r1; cases r2
        simp [Op.equalIn, run_underlying hu]
      case int k =>
        split at e
        · obtain ⟨hk, e'⟩ := cond_some e
          clear e
          simp at hk e'
          subst hk; subst e'
          cases r1; cases r2
          simp [Op.equalIn, run_underlying hu]
          rfl
        · cases e
      case string =>
        split at e <;> cases e
        cases r1; cases r2
        simp [Op.equalIn, run_underlying hu]
        exact beq_bytes _ _
      case pointer =>
        split at e <;> cases e <;> cases r1 <;> cases r2 <;> simp [Op.equalIn, run_underlying hu]
      case interface =>
        split at e <;> cases e <;> cases r1 <;> cases r2 <;> simp [Op.equalIn, run_underlying hu]
      case slice =>
        split at e <;> cases e <;> cases r1 <;> cases r2 <;> simp [Op.equalIn, run_underlying hu]
      case map =>
        split at e <;> cases e <;> cases r1 <;> cases r2 <;> simp [Op.equalIn, run_underlying hu]
      case func =>
        split at e <;> cases e <;> cases r1 <;> cases r2 <;> simp [Op.equalIn, run_underlying hu]
      case struct fields =>
        split at e
        case h_2 => cases e
        rename_i xs ys
        cases r1 with | agg r1 => ?_
        cases r2 with | agg r2 => ?_
        rename_i us vs
        obtain ⟨hst, e'⟩ := cond_none e
        clear e
        have e := e'
        clear e'
        rw [run_equalIn_struct w d t us vs (by rw [hu]; simp [Program.fieldsOf, hu]) hst]
        have : P.fieldsOf t = fields := by simp [Program.fieldsOf, hu]
        rw [this]
        generalize fields.toList = fs at e
        clear this hst hu
        induction fs generalizing b with
        | nil => simp at e; subst e; simp [Op.eqFields]
        | cons f fs ihf =>
          simp only [List.foldr_cons] at e
          simp only [Op.eqFields]
          by_cases hn : f.name = "_"
          · simp [hn] at e
            simp [hn]
            exact ihf e
          · simp [hn] at e
            simp only [ne_eq, hn, not_false_eq_true, if_true]
            cases h1 : partA P f.type xs f.offset with
            | none => rw [h1] at e; cases e
            | some a =>
              rw [h1] at e
              cases h2 : partA P f.type ys f.offset with
              | none => rw [h2] at e; cases e
              | some c =>
                rw [h2] at e
                simp only at e
                obtain ⟨p1, q1, s1⟩ := part_run (P := P) h1 r1 w
                obtain ⟨p2, q2, s2⟩ := part_run (P := P) h2 r2 w
                cases h3 : aeqIn P d f.type a c with
                | none => rw [h3] at e; cases e
                | some r =>
                  rw [h3] at e
                  have h4 := ih h3 s1 s2 w
                  simp only [Sem.run_bind, q1, q2, h4, Result.andThen_ok]
                  cases r with
                  | true => simp only at e; simp; exact ihf e
                  | false => simp at e; subst e; simp
      case array len elem =>
        split at e
        case h_2 => cases e
        rename_i xs ys
        cases r1 with | agg r1 => ?_
        cases r2 with | agg r2 => ?_
        rename_i us vs
        cases hs : sizeT P elem with
        | none => rw [hs] at e; cases e
        | some n =>
          rw [hs] at e
          simp only at e
          simp only [Op.equalIn, Sem.run_bind, run_underlying hu, Result.andThen_ok, run_sizeOf hs]
          rw [Std.Legacy.Range.forIn_eq_forIn_range']
          simp only [Std.Legacy.Range.size, Nat.sub_zero, Nat.add_sub_cancel, Nat.div_one]
          rw [List.range_eq_range'] at e
          generalize List.range' 0 len = l at e
          clear hu
          induction l generalizing b with
          | nil => simp at e; subst e; simp
          | cons i l ihl =>
            simp only [List.foldr_cons] at e
            simp only [List.forIn_cons, Sem.run_bind]
            cases h1 : partA P elem xs (i * n) with
            | none => rw [h1] at e; cases e
            | some a =>
              rw [h1] at e
              cases h2 : partA P elem ys (i * n) with
              | none => rw [h2] at e; cases e
              | some c =>
                rw [h2] at e
                simp only at e
                obtain ⟨p1, q1, s1⟩ := part_run (P := P) h1 r1 w
                obtain ⟨p2, q2, s2⟩ := part_run (P := P) h2 r2 w
                cases h3 : aeqIn P d elem a c with
                | none => rw [h3] at e; cases e
                | some r =>
                  rw [h3] at e
                  have h4 := ih h3 s1 s2 w
                  simp only [q1, q2, h4, Result.andThen_ok]
                  cases r with
                  | true => simp only at e; simp only [Bool.not_true, Bool.false_eq_true, if_false, Sem.run_pure, Result.andThen_ok]; exact ihl e
                  | false => simp at e; subst e; simp

theorem aconv_run {s t : TypeId} {x v : AV} {u : Value} (e : aconv P s t x = some v) (r : VRel μ I x u) (w : World) : ∃ y, (convert s t u).run P w = .ok y w ∧ VRel μ I v y := by
  unfold aconv at e
  cases h1 : P.underlying s with
  | none => rw [h1] at e; cases e
  | some a =>
    rw [h1] at e
    cases h2 : P.underlying t with
    | none => rw [h2] at e; cases e
    | some b =>
      rw [h2] at e
      cases b <;> simp only at e <;> try cases e
      case int k =>
        cases r <;> simp only at e <;> try cases e
        refine ⟨_, ?_, .int _ _⟩
        rw [awrap_eq]
        unfold convert
        simp [run_underlying h1, run_underlying h2, Conv.intToInt]
      case string =>
        cases r <;> simp only at e <;> try cases e
        refine ⟨_, ?_, .str _⟩
        unfold convert
        simp [run_underlying h1, run_underlying h2]

theorem aun_run {op : UnOp} {x v : AV} {u : Value} (e : aun op x = some v) (r : VRel μ I x u) (w : World) : ∃ y, (Op.unary op u).run P w = .ok y w ∧ VRel μ I v y := by
  unfold aun at e
  split at e
  · simp at e; subst e
    cases r
    exact ⟨_, by simp [Op.unary, Op.intArith]; rfl, by rw [awrap_eq, show Int.sub 0 _ = 0 - _ from rfl, Int.zero_sub]; exact .int _ _⟩
  · simp at e; subst e
    cases r
    exact ⟨_, by simp [Op.unary], .bool _⟩
  · cases r
    obtain ⟨y, h1, h2⟩ := pureV_run (P := P) (μ := μ) (I := I) e w
    exact ⟨y, h1, h2⟩
  · cases e

end
end Go.Abs
