import Derived.Test.YtljmicpaheaemaaAbsOps
import Derived.Laws.StructEq
namespace Go.Abs
open Go.RowKit (Below)
section
variable {P : Program} {μ : Mu} {I : Imm} {w0 w : World} {h : Heap}

theorem aindexAddr_run {t : TypeId} {a i v : AV} {u x : Value} (e : aindexAddr P t a i = some v) (r : VRel μ I a u) (ri : VRel μ I i x) (w : World) :
    ∃ y, (Instr.indexAt t u x).run P w = .ok y w ∧ VRel μ I v y := by
  unfold aindexAddr at e
  unfold Instr.indexAt
  cases ri <;> simp only at e <;> try cases e
  case int k n =>
    cases hu : P.underlying t with
    | none => rw [hu] at e; cases e
    | some d =>
      rw [hu] at e
      cases d <;> simp only at e <;> try cases e
      case array len elem =>
        have main : ∀ (_ : (match idx n len, sizeT P elem with | some i, some s => ptrAdd (i * s) a | _, _ => none) = some v), ∃ y, (Instr.indexAt t u (.int k n)).run P w = .ok y w ∧ VRel μ I v y := by
          intro e'
          cases hi : idx n len with
          | none => rw [hi] at e'; cases e'
          | some i =>
            rw [hi] at e'
            cases hs : sizeT P elem with
            | none => rw [hs] at e'; cases e'
            | some s =>
              rw [hs] at e'
              simp only at e'
              obtain ⟨rfl, hl⟩ := idx_spec hi
              obtain ⟨B, o, rfl, hv⟩ := ptrAdd_rel e' r
              refine ⟨_, ?_, hv⟩
              unfold Instr.indexAt
              simp [asIntOf, run_underlying hu, Instr.sureAddr, run_sizeOf hs, hl, add_none]
        unfold Instr.indexAt at main
        cases r <;> simp only at e <;> first | exact main e | cases e
      case slice elem =>
        cases r <;> simp only at e <;> try cases e
        case slice b off len sz cap B o N hm hl hN =>
          cases hi : idx n len with
          | none => rw [hi] at e; cases e
          | some i =>
            rw [hi] at e
            cases hs : sizeT P elem with
            | none => rw [hs] at e; cases e
            | some s =>
              rw [hs] at e
              simp only at e
              obtain ⟨hb, e⟩ := cond_some e
              simp at e
              subst e
              obtain ⟨rfl, hlt⟩ := idx_spec hi
              exact ⟨.pointer (some ⟨B, o + (off + i * s), none⟩), by simp [asIntOf, run_underlying hu, run_sizeOf hs, hlt, add_none]; omega, .ptr hm⟩
        case slice0 b off sz B o N a hm =>
          have : idx n 0 = none := by
            cases hi : idx n 0 with
            | none => rfl
            | some i => have := (idx_spec hi).2; omega
          rw [this] at e
          cases e
        case vslice cs len sz cap B o hc hl =>
          cases hi : idx n len with
          | none => rw [hi] at e; cases e
          | some i =>
            rw [hi] at e
            cases hs : sizeT P elem with
            | none => rw [hs] at e; cases e
            | some s =>
              rw [hs] at e
              simp only at e
              obtain ⟨hb, e⟩ := cond_some e
              simp at e
              subst e
              obtain ⟨rfl, hlt⟩ := idx_spec hi
              refine ⟨.pointer (some ⟨B, o + i * s, none⟩), by simp [asIntOf, run_underlying hu, run_sizeOf hs, hlt, add_none], .vptr ?_⟩
              by_cases hn : i * s ≤ cs.length
              · exact hc.drop _ hn
              · rw [List.drop_eq_nil_of_le (by omega)]; exact .nil
        case vslice0 cs sz a =>
          have : idx n 0 = none := by
            cases hi : idx n 0 with
            | none => rfl
            | some i => have := (idx_spec hi).2; omega
          rw [this] at e
          cases e

theorem aindex_run {t : TypeId} {a i v : AV} {u x : Value} (e : aindex P t a i = some v) (r : VRel μ I a u) (ri : VRel μ I i x) (w : World) :
    ∃ y, (Instr.index t u x).run P w = .ok y w ∧ VRel μ I v y := by
  unfold aindex at e
  unfold Instr.index
  cases ri <;> simp only at e <;> try cases e
  case int k n =>
    cases hu : P.underlying t with
    | none => rw [hu] at e; cases e
    | some d =>
      rw [hu] at e
      cases d <;> simp only at e <;> try cases e
      case array len elem =>
        cases r <;> simp only at e <;> try cases e
        case agg cs us r =>
          cases hi : idx n len with
          | none => rw [hi] at e; cases e
          | some i =>
            rw [hi] at e
            cases hs : sizeT P elem with
            | none => rw [hs] at e; cases e
            | some s =>
              rw [hs] at e
              simp only at e
              obtain ⟨rfl, hlt⟩ := idx_spec hi
              obtain ⟨y, h1, h2⟩ := part_run e r w
              exact ⟨y, by simp [asIntOf, run_underlying hu, run_sizeOf hs, hlt, h1], h2⟩
      case string =>
        cases r <;> simp only at e <;> try cases e
        case str s =>
          cases hi : idx n s.size with
          | none => rw [hi] at e; cases e
          | some i =>
            rw [hi] at e
            simp only at e
            obtain ⟨rfl, hlt⟩ := idx_spec hi
            cases hb : s[i]? with
            | none => rw [hb] at e; cases e
            | some b =>
              rw [hb] at e
              simp at e
              subst e
              exact ⟨.int .u8 b.toNat, by simp [asIntOf, run_underlying hu, hb], .int _ _⟩

theorem bounds_spec {len : Nat} {lo hi : Option AV} {l m : Nat} (e : bounds len lo hi = some (l, m)) :
    l ≤ m ∧ m ≤ len ∧ (hi = none ∧ m = len ∨ ∃ k, hi = some (.int k m)) ∧ (lo = none ∧ l = 0 ∨ ∃ k, lo = some (.int k l)) := by
  unfold bounds at e
  cases hi with
  | none =>
    simp only at e
    cases lo with
    | none => simp at e; obtain ⟨rfl, rfl⟩ := e; exact ⟨by omega, by omega, .inl ⟨rfl, rfl⟩, .inl ⟨rfl, rfl⟩⟩
    | some x =>
      cases x <;> simp only at e <;> try cases e
      case int k n =>
        cases h1 : idx n (len + 1) with
        | none => rw [h1] at e; cases e
        | some i =>
          rw [h1] at e
          simp at e
          obtain ⟨rfl, rfl⟩ := e
          obtain ⟨rfl, h2⟩ := idx_spec h1
          exact ⟨by omega, by omega, .inl ⟨rfl, rfl⟩, .inr ⟨k, rfl⟩⟩
  | some y =>
    cases y <;> simp only at e <;> try cases e
    case int k n =>
      cases h1 : idx n (len + 1) with
      | none => rw [h1] at e; cases e
      | some j =>
        rw [h1] at e
        simp only at e
        obtain ⟨rfl, h2⟩ := idx_spec h1
        cases lo with
        | none => simp at e; obtain ⟨rfl, rfl⟩ := e; exact ⟨by omega, by omega, .inr ⟨k, rfl⟩, .inl ⟨rfl, rfl⟩⟩
        | some x =>
          cases x <;> simp only at e <;> try cases e
          case int k' n' =>
            cases h3 : idx n' (j + 1) with
            | none => rw [h3] at e; cases e
            | some i =>
              rw [h3] at e
              simp at e
              obtain ⟨rfl, rfl⟩ := e
              obtain ⟨rfl, h4⟩ := idx_spec h3
              exact ⟨by omega, by omega, .inr ⟨k, rfl⟩, .inr ⟨k', rfl⟩⟩

/-- Options of related values. -/
inductive RelO (μ : Mu) (I : Imm) : Option AV → Option Value → Prop
  | none : RelO μ I none none
  | some {a : AV} {v : Value} : VRel μ I a v → RelO μ I (some a) (some v)

theorem sliceBounds_run (isSlice : Bool) {len cap : Nat} {lo hi : Option AV} {lo' hi' : Option Value} {l m : Nat} (e : bounds len lo hi = some (l, m)) (hcap : len ≤ cap)
    (r1 : RelO μ I lo lo') (r2 : RelO μ I hi hi') (w : World) : (Instr.sliceBounds isSlice len cap lo' hi' none).run P w = .ok (l, m, cap) w := by
  obtain ⟨h1, h2, h3, h4⟩ := bounds_spec e
  unfold Instr.sliceBounds
  have q1 : ∀ (k : IntKind) (n y : Nat) (c : BoundsCode), n ≤ y → (Instr.sliceBound (.int k n) y c).run P w = .ok n w := by
    intro k n y c hle
    unfold Instr.sliceBound
    simp [asIntOf, hle]
  rcases h3 with ⟨rfl, rfl⟩ | ⟨k, rfl⟩ <;> rcases h4 with ⟨rfl, rfl⟩ | ⟨k', rfl⟩ <;> cases r1 <;> cases r2
  · simp
  · rename_i r1; cases r1; simp [q1 _ _ _ _ h1]
  · rename_i r2; cases r2; simp [q1 _ _ _ _ (Nat.le_trans h2 hcap)]
  · rename_i r1 _ r2; cases r1; cases r2; simp [q1 _ _ _ _ h1, q1 _ _ _ _ (Nat.le_trans h2 hcap)]

theorem aslice_run (W : WRel μ I w0 h w) {t : TypeId} {a v : AV} {lo hi : Option AV} {u : Value} {lo' hi' : Option Value} (e : aslice P h t a lo hi = some v) (r : VRel μ I a u)
    (r1 : RelO μ I lo lo') (r2 : RelO μ I hi hi') : ∃ y, (Instr.sliceAt t u lo' hi' none).run P w = .ok y w ∧ VRel μ I v y := by
  unfold aslice at e
  unfold Instr.sliceAt
  cases hu : P.underlying t with
  | none => rw [hu] at e; cases e
  | some d =>
    rw [hu] at e
    cases d <;> simp only at e <;> try cases e
    case array n elem =>
      cases r <;> simp only at e <;> try cases e
      case ptr b off B o N hm =>
        cases hb : h.get b with
        | none => rw [hb] at e; cases e
        | some ob =>
          rw [hb] at e
          cases hbd : bounds n lo hi with
          | none => rw [hbd] at e; cases ob <;> cases e
          | some lm =>
            obtain ⟨l, m⟩ := lm
            rw [hbd] at e
            cases hs : sizeT P elem with
            | none => rw [hs] at e; cases ob <;> cases e
            | some s =>
              rw [hs] at e
              cases ob <;> simp only at e <;> try cases e
              case cells cs =>
                obtain ⟨hc, e⟩ := cond_some e
                simp at e
                subst e
                have hc := Nat.le_of_ble_eq_true hc
                obtain ⟨b1, b2, _, _⟩ := bounds_spec hbd
                obtain ⟨obj, ho, hr⟩ := W.objs _ _ _ _ _ hb hm
                cases hr with
                | cells g1 g2 g3 =>
                  have hmul : l * s ≤ n * s := Nat.mul_le_mul_right _ (by omega)
                  refine ⟨_, by simp [run_underlying hu, Instr.sureAddr, sliceBounds_run false hbd (Nat.le_refl _) r1 r2 w, run_sizeOf hs, add_none]; rfl, ?_⟩
                  by_cases hz : n = l
                  · subst hz
                    have : m - n = 0 := by omega
                    simp only [if_pos, this, Nat.sub_self]
                    exact .slice0 hm
                  · rw [if_neg hz, show o + off + l * s = o + (off + l * s) from by omega]
                    refine .slice hm (by omega) ?_
                    have : (n - l) * s = n * s - l * s := Nat.sub_mul _ _ _
                    omega
    case string =>
      cases r <;> simp only at e <;> try cases e
      case str s =>
        cases hbd : bounds s.size lo hi with
        | none => rw [hbd] at e; cases e
        | some lm =>
          obtain ⟨l, m⟩ := lm
          rw [hbd] at e
          simp at e
          subst e
          exact ⟨.string (s.extract l m), by simp [run_underlying hu, Instr.slice, sliceBounds_run false hbd (Nat.le_refl _) r1 r2 w], .str _⟩
    case slice elem =>
      cases r <;> simp only at e <;> try cases e
      case nils =>
        cases hbd : bounds 0 lo hi with
        | none => rw [hbd] at e; cases e
        | some lm =>
          obtain ⟨l, m⟩ := lm
          rw [hbd] at e
          cases hs : sizeT P elem with
          | none => rw [hs] at e; cases e
          | some s =>
            rw [hs] at e
            simp at e
            subst e
            obtain ⟨b1, b2, _, _⟩ := bounds_spec hbd
            have hm0 : m = 0 := by omega
            have hl0 : l = 0 := by omega
            subst hm0; subst hl0
            exact ⟨.slice none 0 0, by simp [run_underlying hu, Instr.slice, sliceBounds_run true hbd (Nat.le_refl _) r1 r2 w, run_sizeOf hs], .nils⟩
      case slice b off len sz cap B o N hm hl hN =>
        cases hbd : bounds len lo hi with
        | none => rw [hbd] at e; cases e
        | some lm =>
          obtain ⟨l, m⟩ := lm
          rw [hbd] at e
          cases hs : sizeT P elem with
          | none => rw [hs] at e; cases e
          | some s =>
            rw [hs] at e
            simp only at e
            obtain ⟨hb, e⟩ := cond_some e
            have hb := beq_tt hb
            subst hb
            simp at e
            subst e
            obtain ⟨b1, b2, _, _⟩ := bounds_spec hbd
            refine ⟨_, by simp [run_underlying hu, Instr.slice, sliceBounds_run true hbd hl r1 r2 w, run_sizeOf hs, add_none]; rfl, ?_⟩
            by_cases hz : cap = l
            · subst hz
              have : m - cap = 0 := by omega
              simp only [if_pos, this, Nat.sub_self]
              exact .slice0 hm
            · rw [if_neg hz, show o + off + l * s = o + (off + l * s) from by omega]
              refine .slice hm (by omega) ?_
              have h1 : (cap - l) * s = cap * s - l * s := Nat.sub_mul _ _ _
              have h2 : l * s ≤ cap * s := Nat.mul_le_mul_right _ (by omega)
              omega
      case slice0 b off sz B o N a hm =>
        cases hbd : bounds 0 lo hi with
        | none => rw [hbd] at e; cases e
        | some lm =>
          obtain ⟨l, m⟩ := lm
          rw [hbd] at e
          cases hs : sizeT P elem with
          | none => rw [hs] at e; cases e
          | some s =>
            rw [hs] at e
            simp only at e
            obtain ⟨hb, e⟩ := cond_some e
            simp at e
            subst e
            obtain ⟨b1, b2, _, _⟩ := bounds_spec hbd
            have hm0 : m = 0 := by omega
            have hl0 : l = 0 := by omega
            subst hm0; subst hl0
            exact ⟨.slice (some a) 0 0, by simp [run_underlying hu, Instr.slice, sliceBounds_run true hbd (Nat.le_refl _) r1 r2 w, run_sizeOf hs], .slice0 hm⟩
      case vslice cs len sz cap B o hc hl =>
        cases hbd : bounds len lo hi with
        | none => rw [hbd] at e; cases e
        | some lm =>
          obtain ⟨l, m⟩ := lm
          rw [hbd] at e
          cases hs : sizeT P elem with
          | none => rw [hs] at e; cases e
          | some s =>
            rw [hs] at e
            simp only at e
            obtain ⟨hb, e⟩ := cond_some e
            simp at e
            subst e
            obtain ⟨b1, b2, _, _⟩ := bounds_spec hbd
            refine ⟨_, by simp [run_underlying hu, Instr.slice, sliceBounds_run true hbd hl r1 r2 w, run_sizeOf hs, add_none]; rfl, ?_⟩
            by_cases hz : cap = l
            · subst hz
              have : m - cap = 0 := by omega
              simp only [if_pos, this, Nat.sub_self]
              exact .vslice0
            · rw [if_neg hz]
              refine .vslice ?_ (by omega)
              by_cases hn : l * s ≤ cs.length
              · exact hc.drop _ hn
              · rw [List.drop_eq_nil_of_le (by omega)]; exact .nil
      case vslice0 cs sz a =>
        cases hbd : bounds 0 lo hi with
        | none => rw [hbd] at e; cases e
        | some lm =>
          obtain ⟨l, m⟩ := lm
          rw [hbd] at e
          cases hs : sizeT P elem with
          | none => rw [hs] at e; cases e
          | some s =>
            rw [hs] at e
            simp only at e
            obtain ⟨hb, e⟩ := cond_some e
            simp at e
            subst e
            obtain ⟨b1, b2, _, _⟩ := bounds_spec hbd
            have hm0 : m = 0 := by omega
            have hl0 : l = 0 := by omega
            subst hm0; subst hl0
            exact ⟨.slice (some a) 0 0, by simp [run_underlying hu, Instr.slice, sliceBounds_run true hbd (Nat.le_refl _) r1 r2 w, run_sizeOf hs], .vslice0⟩

end
end Go.Abs
