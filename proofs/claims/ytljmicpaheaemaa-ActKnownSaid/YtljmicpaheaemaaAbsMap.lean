/- Maps: looking up. -/
import Derived.Test.YtljmicpaheaemaaAbsOps4
namespace Go.Abs
set_option linter.unusedSimpArgs false
set_option linter.unusedVariables false
section
variable {P : Program} {μ : Mu} {I : Imm} {w0 w : World} {h : Heap}

theorem sem_forIn_unit {α : Type} {f : α → PUnit → Sem (ForInStep PUnit)} : ∀ (l : List α), (∀ x ∈ l, (f x ⟨⟩).run P w = .ok (.yield ⟨⟩) w) → (forIn l PUnit.unit f).run P w = .ok ⟨⟩ w
  | [], _ => by simp
  | x :: l, hx => by
    have h1 := hx x (by simp)
    have h2 := sem_forIn_unit l (fun y hy => hx y (by simp [hy]))
    simp only [List.forIn_cons, Sem.run_bind, h1, Result.andThen_ok]
    exact h2

theorem keyOk_run {fl : Bool} (w : World) : ∀ (n : Nat) {t : TypeId} {v : AV} {u : Value}, keyOk P n t v = true → VRel μ I v u → (Instr.checkKey fl n t u).run P w = .ok () w
  | 0, t, v, u, e, r => by simp [keyOk] at e
  | n + 1, t, v, u, e, r => by
    unfold keyOk at e
    cases hu : P.underlying t with
    | none => rw [hu] at e; cases e
    | some d =>
      rw [hu] at e
      unfold Instr.checkKey
      simp only [Sem.run_bind, run_underlying hu, Result.andThen_ok]
      cases d
      case struct fields =>
        simp only at e
        split at e
        case h_2 => cases e
        cases r with | agg r => ?_
        rename_i cs us
        simp only [← Array.forIn_toList]
        simp only [List.all_eq_true] at e
        simp only [Sem.run_bind]
        rw [sem_forIn_unit (P := P) (w := w) fields.toList fun f hf => ?_]
        · rfl
        have ef := e f hf
        by_cases hn : f.name = "_"
        · simp [hn]
        · simp only [hn, decide_false, Bool.false_or] at ef
          cases h1 : partA P f.type cs f.offset with
          | none => rw [h1] at ef; cases ef
          | some x =>
            rw [h1] at ef
            obtain ⟨p, q, s⟩ := part_run (P := P) h1 r w
            have := keyOk_run w n ef s (fl := fl)
            simp [hn, q, this]
      case array len elem =>
        simp only at e
        split at e
        case h_2 => cases e
        cases r with | agg r => ?_
        rename_i cs us
        split at e
        case h_2 => cases e
        rename_i sz hs
        simp only [List.all_eq_true] at e
        simp only [Sem.run_bind]
        rw [Std.Legacy.Range.forIn_eq_forIn_range']
        simp only [Std.Legacy.Range.size, Nat.sub_zero, Nat.add_sub_cancel, Nat.div_one]
        rw [List.range_eq_range'] at e
        rw [sem_forIn_unit (P := P) (w := w) (List.range' 0 len) fun i hi => ?_]
        · rfl
        have ef := e i hi
        cases h1 : partA P elem cs (i * sz) with
        | none => rw [h1] at ef; cases ef
        | some x =>
          rw [h1] at ef
          obtain ⟨p, q, s⟩ := part_run (P := P) h1 r w
          have := keyOk_run w n ef s (fl := fl)
          simp [run_sizeOf hs, q, this]
      case interface ms => cases e
      all_goals simp

theorem keyNow_run {d : TypeDesc} {x y : AV} {u v : Value} {b : Bool} (e : keyNow d x y = some b) (r : VRel μ I x u) (q : VRel μ I y v) : Instr.sameNow d u v = some b := by
  unfold keyNow at e
  split at e
  · split at e
    · cases r; cases q
      obtain ⟨h1, e'⟩ := cond_some e
      simp at h1 e'
      subst h1
      subst e'
      simp [Instr.sameNow]
      rfl
    · cases e
  · split at e
    · cases r; cases q
      simp at e; subst e
      simp [Instr.sameNow, beq_bytes]
    · cases e
  · split at e
    · cases r; cases q
      simp at e; subst e
      simp [Instr.sameNow]
    · cases e
  · cases e

theorem sameNow_hard {d : TypeDesc} (h : simpleKey d = false) (u v : Value) : Instr.sameNow d u v = none := by
  cases d <;> first | (simp [simpleKey] at h; done) | rfl

/-- What a search comes to. -/
inductive FRes (μ : Mu) (I : Imm) (es : List AEntry) (ms : List MapEntry) (i0 : Nat) : Option (Nat × AV × AV) → Option (Nat × Value) → Prop
  | none : FRes μ I es ms i0 none none
  | some {i : Nat} {k v : AV} {u x : Value} {m : MapEntry} : ms[i]? = some m → m.key = x → m.val = u → VRel μ I k x → VRel μ I v u → FRes μ I es ms i0 (some (i0 + i, k, v)) (some (i0 + i, u))

theorem findE_now {kt : TypeId} {d : TypeDesc} {x : AV} {u : Value} (hd : simpleKey d = true) (r : VRel μ I x u) : ∀ {es : List AEntry} {ms : List MapEntry} {i : Nat} {o : Option (Nat × AV × AV)}, findE P kt d x es i = some o → ERels μ I es ms →
    ∃ p, Instr.findNow d u ms i = some p ∧ FRes μ I es ms i o p
  | [], _, i, o, e, .nil => by simp [findE] at e; subst e; exact ⟨none, rfl, .none⟩
  | a :: es, c :: ms, i, o, e, .cons hk hv hb hr => by
    unfold findE keyEq at e
    simp only [hd, cond_true] at e
    unfold Instr.findNow
    cases hn : keyNow d x a.key with
    | none => rw [hn] at e; cases e
    | some b =>
      rw [hn] at e
      rw [keyNow_run hn r hk]
      cases b with
      | true => simp at e; subst e; exact ⟨_, rfl, FRes.some (i := 0) (m := c) rfl rfl rfl hk hv⟩
      | false =>
        simp only at e ⊢
        obtain ⟨p, h1, h2⟩ := findE_now hd r e hr
        refine ⟨p, h1, ?_⟩
        cases h2 with
        | none => exact .none
        | some hm h3 h4 h5 h6 =>
          rename_i j k v u' x' m
          rw [show i + 1 + j = i + (j + 1) by omega]
          exact FRes.some (i := j + 1) (m := m) (by simpa using hm) h3 h4 h5 h6

theorem findE_asking {kt : TypeId} {d : TypeDesc} {x : AV} {u : Value} (hd : simpleKey d = false) (r : VRel μ I x u) (w : World) : ∀ {es : List AEntry} {ms : List MapEntry} {i : Nat} {o : Option (Nat × AV × AV)}, findE P kt d x es i = some o → ERels μ I es ms →
    ∃ p, (Instr.findAsking kt u ms i).run P w = .ok p w ∧ FRes μ I es ms i o p
  | [], _, i, o, e, .nil => by simp [findE] at e; subst e; exact ⟨none, by simp [Instr.findAsking], .none⟩
  | a :: es, c :: ms, i, o, e, .cons hk hv hb hr => by
    unfold findE keyEq at e
    simp only [hd, cond_false] at e
    unfold Instr.findAsking
    cases hn : aeqIn P 10000 kt x a.key with
    | none => rw [hn] at e; cases e
    | some b =>
      rw [hn] at e
      have hq : (Op.equal kt u c.key).run P w = .ok b w := aeqIn_run 10000 hn r hk w
      simp only [Sem.run_bind, hq, Result.andThen_ok]
      cases b with
      | true => simp at e; subst e; exact ⟨some (i, c.val), by simp, FRes.some (i := 0) (m := c) rfl rfl rfl hk hv⟩
      | false =>
        simp only at e
        obtain ⟨p, h1, h2⟩ := findE_asking hd r w e hr
        refine ⟨p, by simpa using h1, ?_⟩
        cases h2 with
        | none => exact .none
        | some hm h3 h4 h5 h6 =>
          rename_i j k v u' x' m
          rw [show i + 1 + j = i + (j + 1) by omega]
          exact FRes.some (i := j + 1) (m := m) (by simpa using hm) h3 h4 h5 h6

theorem findKey_run {kt : TypeId} {d : TypeDesc} {x : AV} {u : Value} (hk : P.underlying kt = some d) (r : VRel μ I x u) (w : World) {es : List AEntry} {ms : List MapEntry} {o : Option (Nat × AV × AV)} (e : findE P kt d x es 0 = some o) (he : ERels μ I es ms) :
    ∃ p, (Instr.findKey kt u ms).run P w = .ok p w ∧ FRes μ I es ms 0 o p := by
  unfold Instr.findKey
  simp only [Sem.run_bind, run_underlying hk, Result.andThen_ok]
  cases hd : simpleKey d with
  | true =>
    obtain ⟨p, h1, h2⟩ := findE_now (P := P) hd r e he
    exact ⟨p, by rw [h1]; rfl, h2⟩
  | false =>
    cases he with
    | nil => simp [findE] at e; subst e; exact ⟨none, by simp [Instr.findNow], .none⟩
    | cons h1 h2 h3 h4 =>
      rename_i a c es ms
      obtain ⟨p, h5, h6⟩ := findE_asking (P := P) hd r w e (.cons h1 h2 h3 h4)
      refine ⟨p, ?_, h6⟩
      simp only [Instr.findNow, sameNow_hard hd]
      exact h5

theorem mapOf_spec {t kt et : TypeId} {d : TypeDesc} (e : mapOf P t = some (kt, d, et)) : P.underlying t = some (.map kt et) ∧ P.underlying kt = some d := by
  unfold mapOf at e
  split at e
  case h_2 => cases e
  rename_i k el hu
  cases hk : P.underlying k with
  | none => rw [hk] at e; cases e
  | some q => rw [hk] at e; cases e; exact ⟨hu, hk⟩

theorem alookup_run (W : WRel μ I w0 h w) {t : TypeId} {x ix v : AV} {u ui : Value} {ok : Bool} (e : alookup P h t x ix ok = some v) (r : VRel μ I x u) (q : VRel μ I ix ui) :
    ∃ z, (Instr.lookup t u ui ok).run P w = .ok z w ∧ VRel μ I v z := by
  unfold alookup at e
  split at e
  case h_2 => cases e
  rename_i kt d et hm
  obtain ⟨ht, hk⟩ := mapOf_spec hm
  cases he : entriesOf h x with
  | none => rw [he] at e; cases e
  | some es =>
    rw [he] at e
    obtain ⟨hok, e⟩ := cond_some e
    have hent : ∃ l : Array MapEntry, ERels μ I es l.toList ∧ ((u = .map none ∧ l = #[]) ∨ ∃ B ck, u = .map (some B) ∧ (getObj B).run P w = .ok (.map l ck) w) := by
      unfold entriesOf at he
      split at he
      · cases r; cases he; exact ⟨#[], .nil, .inl ⟨rfl, rfl⟩⟩
      · rename_i b
        cases r with | map hmu => ?_
        rename_i B o N
        split at he
        case h_2 => cases he
        rename_i es' ck hb
        cases he
        obtain ⟨obj, ho, hr⟩ := W.objs _ _ _ _ _ hb hmu
        cases hr with | map hes => ?_
        rename_i l
        exact ⟨l, hes, .inr ⟨B, ck, rfl, by simp [getObj, Sem.run, ho]⟩⟩
      · cases he
    obtain ⟨l, hes, hl⟩ := hent
    have hck : ∀ fl, (Instr.checkKey fl 10000 kt ui).run P w = .ok () w := fun fl => keyOk_run w 10000 hok q
    cases hf : findE P kt d ix es 0 with
    | none => rw [hf] at e; cases e
    | some o =>
      rw [hf] at e
      obtain ⟨p, h1, h2⟩ := findKey_run hk q w hf hes
      cases h2 with
      | none =>
        simp only at e
        cases hz : zeroA P et with
        | none => rw [hz] at e; cases e
        | some z =>
          rw [hz] at e
          obtain ⟨i, zv, hi, hzv, rfl, hrun⟩ := run_zeroValue (P := P) hz w
          simp at e
          subst e
          refine ⟨if ok = true then .tuple #[zv, .bool false] else zv, ?_, ?_⟩
          · rcases hl with ⟨rfl, rfl⟩ | ⟨B, ck, rfl, hg⟩
            · simp at h1
              simp [Instr.lookup, run_underlying ht, hck, h1, hrun]
            · simp [Instr.lookup, run_underlying ht, hg, hck, h1, hrun]
          · cases ok with
            | true => exact .tuple (.cons (ofV_rel zv) (.cons (.bool _) .nil))
            | false => exact ofV_rel zv
      | some hm h3 h4 h5 h6 =>
        simp at e
        subst e
        rename_i u' x' m
        refine ⟨if ok = true then .tuple #[u', .bool true] else u', ?_, ?_⟩
        · rcases hl with ⟨rfl, rfl⟩ | ⟨B, ck, rfl, hg⟩
          · simp at hm
          · simp [Instr.lookup, run_underlying ht, hg, hck, h1]
        · cases ok with
          | true => exact .tuple (.cons h6 (.cons (.bool _) .nil))
          | false => exact h6
end
end Go.Abs
