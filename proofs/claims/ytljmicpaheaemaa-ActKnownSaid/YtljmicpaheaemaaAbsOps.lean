/- Each operation of the abstract machine is the model's. -/
import Derived.Test.YtljmicpaheaemaaAbsRel
namespace Go.Abs
open Go.RowKit (Below)

/-- A deferred call. -/
inductive DRel (μ : Mu) (I : Imm) : ADef → Deferred → Prop
  | func {f : FuncId} {a : List AV} {cap args : Array Value} : VRels μ I a (args ++ cap).toList → DRel μ I { tgt := .func f, args := a } { target := .fn (.func f) cap, args }
  | collected {r B o N : Nat} {a : List AV} {args : Array Value} : μ r = some (B, o, N) → DRel μ I { tgt := .collected r, args := a } { target := .collected B, args }
inductive DRels (μ : Mu) (I : Imm) : List ADef → List Deferred → Prop
  | nil : DRels μ I [] []
  | cons {a : ADef} {d : Deferred} {as_ : List ADef} {ds : List Deferred} : DRel μ I a d → DRels μ I as_ ds → DRels μ I (a :: as_) (d :: ds)

/-- The temporaries of a frame. -/
def TRel (μ : Mu) (I : Imm) (tm : Tr AV) (tmps : Array Value) : Prop := ∀ t v, tm.get t = some v → VRel μ I v (tmps.getD t undef)

structure LRel (μ : Mu) (I : Imm) (a : ALoop) (c : Loop) : Prop where
  state : c.state = a.state
  pending : c.pending = a.pending
  fn : c.fn = a.fn
  nt : c.tmps.size = a.nt
  tm : TRel μ I a.tm c.tmps
  params : c.params = a.params
  assign : c.assign = a.assign
  body : c.body = a.body
  defers : ∃ o N, μ a.defers = some (c.defers, o, N)

inductive ERels (μ : Mu) (I : Imm) : List AEntry → List MapEntry → Prop
  | nil : ERels μ I [] []
  | cons {a : AEntry} {c : MapEntry} {as_ : List AEntry} {cs : List MapEntry} : VRel μ I a.key c.key → VRel μ I a.val c.val → a.born = c.born → ERels μ I as_ cs → ERels μ I (a :: as_) (c :: cs)

/-- A block. -/
inductive ORel (μ : Mu) (I : Imm) : AObj → Nat → Nat → Obj → Prop
  | cells {cs : List AV} {o N : Nat} {c : Array Value} {e : TypeId} : c.size = N → o + cs.length ≤ N → (∀ (i : Nat) (a : AV), cs[i]? = some a → ∃ v, c[o + i]? = some v ∧ VRel μ I a v) →
      ORel μ I (.cells cs) o N (.cells c e (0, 0))
  | map {es : List AEntry} {o N : Nat} {l : Array MapEntry} {clock : Nat} : ERels μ I es l.toList → ORel μ I (.map es clock) o N (.map l clock)
  | loop {a : ALoop} {o N : Nat} {c : Loop} : LRel μ I a c → ORel μ I (.loop a) o N (.loop c)
  | deferredNone {o N : Nat} : ORel μ I (.deferred none) o N (.deferred none)
  | deferredSome {ds : List ADef} {o N : Nat} {cs : List Deferred} : DRels μ I ds cs → ORel μ I (.deferred (some ds)) o N (.deferred (some cs))

/-- The heap and the world. -/
structure WRel (μ : Mu) (I : Imm) (w0 : World) (h : Heap) (w : World) : Prop where
  below : Below w0.heap.size w0 w
  live : ∀ b ob, h.get b = some ob → b < h.next
  mapped : ∀ b B o N, μ b = some (B, o, N) → w0.heap.size ≤ B ∧ B < w.heap.size ∧ b < h.next
  objs : ∀ b ob B o N, h.get b = some ob → μ b = some (B, o, N) → ∃ obj, w.heap[B]? = some obj ∧ ORel μ I ob o N obj
  inj : ∀ b b' ob ob' B o N o' N', h.get b = some ob → h.get b' = some ob' → μ b = some (B, o, N) → μ b' = some (B, o', N') → b = b'
  imm : ∀ B o v, I B o = some v → w.cell? ⟨B, o, none⟩ = some v ∧ w.frozen? ⟨B, o, none⟩ = w.frozen? ⟨B, o, none⟩ ∧ ∀ b ob o' N, h.get b = some ob → μ b ≠ some (B, o', N)

section
variable {P : Program} {μ : Mu} {I : Imm} {w0 w : World} {h : Heap}

theorem add_none (B o n : Nat) : (Addr.mk B o none).add n = ⟨B, o + n, none⟩ := by
  unfold Addr.add; split
  · rename_i e; subst e; rfl
  · rfl

theorem run_sizeOf {t n : Nat} (e : sizeT P t = some n) (w : World) : (sizeOf t).run P w = .ok n w := by
  unfold sizeT at e
  unfold sizeOf typeInfo
  cases hi : P.info? t with
  | none => rw [hi] at e; simp at e
  | some i => rw [hi] at e; simp at e; subst e; simp [hi]

theorem run_typeInfo {t : TypeId} {i : TypeInfo} (e : P.info? t = some i) (w : World) : (typeInfo t).run P w = .ok i w := by
  unfold typeInfo; simp [e]

theorem run_underlying {t : TypeId} {d : TypeDesc} (e : P.underlying t = some d) (w : World) : (underlying t).run P w = .ok d w := by
  unfold underlying; simp [e]

theorem run_isAgg {t : TypeId} {b : Bool} (e : isAggT P t = some b) (w : World) : (isAgg t).run P w = .ok b w := by
  unfold isAggT at e
  unfold isAgg
  cases hu : P.underlying t with
  | none => rw [hu] at e; cases e
  | some d => rw [hu] at e; simp [run_underlying hu]; cases d <;> simp at e <;> subst e <;> simp

theorem run_zeroValue {t : TypeId} {z : AV} (e : zeroA P t = some z) (w : World) : ∃ i v, P.info? t = some i ∧ i.zero = some v ∧ z = ofV v ∧ (zeroValue t).run P w = .ok v w := by
  unfold zeroA at e
  cases hi : P.info? t with
  | none => rw [hi] at e; cases e
  | some i =>
    rw [hi] at e
    simp at e
    obtain ⟨v, hv, rfl⟩ := e
    exact ⟨i, v, rfl, hv, rfl, by unfold zeroValue; simp [run_typeInfo hi, hv]⟩

/-- Cells in the world. -/
def CellsAt (μ : Mu) (I : Imm) (w : World) (cs : List AV) (B o : Nat) : Prop := ∀ (i : Nat) (a : AV), cs[i]? = some a → ∃ v, w.cell? ⟨B, o + i, none⟩ = some v ∧ VRel μ I a v

theorem CellsAt.drop {cs : List AV} {B o : Nat} (c : CellsAt μ I w cs B o) (n : Nat) : CellsAt μ I w (cs.drop n) B (o + n) := by
  intro i a e
  rw [List.getElem?_drop] at e
  obtain ⟨v, hv, hr⟩ := c _ _ e
  exact ⟨v, by rw [show o + n + i = o + (n + i) from by omega]; exact hv, hr⟩

theorem cellsAt_imm (W : WRel μ I w0 h w) {cs : List AV} {B o : Nat} (c : ICells μ I cs B o) : CellsAt μ I w cs B o := by
  intro i a e
  obtain ⟨v, hv, hr⟩ := c.get e
  exact ⟨v, (W.imm _ _ _ hv).1, hr⟩

theorem cellsAt_block (W : WRel μ I w0 h w) {b B o N : Nat} {cs : List AV} (hb : h.get b = some (.cells cs)) (hm : μ b = some (B, o, N)) : CellsAt μ I w cs B o := by
  obtain ⟨obj, ho, hr⟩ := W.objs _ _ _ _ _ hb hm
  cases hr with
  | cells h1 h2 h3 =>
    intro i a e
    obtain ⟨v, hv, hr⟩ := h3 i a e
    exact ⟨v, by simp [World.cell?, ho, hv], hr⟩

theorem loadCellsFrom_run {B o : Nat} : ∀ (n i : Nat) (cs : List AV) (acc : Array Value), (∀ (j : Nat) (a : AV), cs[j]? = some a → ∃ v, w.cell? ⟨B, o + i + j, none⟩ = some v ∧ VRel μ I a v) → cs.length = n →
    ∃ vs : List Value, (loadCellsFrom ⟨B, o, none⟩ i n acc).run P w = .ok (acc ++ vs.toArray) w ∧ VRels μ I cs vs := by
  intro n
  induction n with
  | zero =>
    intro i cs acc _ hl
    have : cs = [] := by simpa using hl
    subst this
    exact ⟨[], by simp [loadCellsFrom], .nil⟩
  | succ n ih =>
    intro i cs acc hc hl
    cases cs with
    | nil => simp at hl
    | cons a cs =>
      obtain ⟨v, hv, hr⟩ := hc 0 a rfl
      obtain ⟨vs, h1, h2⟩ := ih (i + 1) cs (acc.push v) (fun j a e => by
        obtain ⟨v, hv, hr⟩ := hc (j + 1) a (by simpa using e)
        exact ⟨v, by rw [show o + (i + 1) + j = o + i + (j + 1) from by omega]; exact hv, hr⟩) (by simpa using hl)
      refine ⟨v :: vs, ?_, .cons hr h2⟩
      have hv' : w.cell? ⟨B, o + i, none⟩ = some v := by simpa using hv
      simp only [loadCellsFrom, Sem.run_bind, run_load, add_none, hv', Result.andThen_ok, h1]
      congr 1
      apply Array.ext'
      simp

theorem loadCells_run {B o n : Nat} {cs : List AV} (c : CellsAt μ I w cs B o) (hl : cs.length = n) :
    ∃ vs : List Value, (loadCells ⟨B, o, none⟩ n).run P w = .ok vs.toArray w ∧ VRels μ I cs vs := by
  obtain ⟨vs, h1, h2⟩ := loadCellsFrom_run (P := P) (w := w) (μ := μ) (I := I) (B := B) (o := o) n 0 cs #[] (fun j a e => by simpa using c j a e) hl
  exact ⟨vs, by unfold loadCells; rw [h1]; simp, h2⟩

theorem takeN_spec : ∀ {n : Nat} {cs l : List AV}, takeN n cs = some l → l = cs.take n ∧ l.length = n
  | 0, _, _, e => by simp [takeN] at e; subst e; simp
  | n + 1, [], _, e => by simp [takeN] at e
  | n + 1, x :: xs, l, e => by
    simp only [takeN] at e
    cases h : takeN n xs with
    | none => rw [h] at e; simp at e
    | some m =>
      rw [h] at e
      simp at e
      obtain ⟨h1, h2⟩ := takeN_spec h
      subst e
      exact ⟨by simp [h1], by simp [h2]⟩

theorem CellsAt.take {cs l : List AV} {B o n : Nat} (c : CellsAt μ I w cs B o) (e : takeN n cs = some l) : CellsAt μ I w l B o := by
  obtain ⟨rfl, _⟩ := takeN_spec e
  intro i a hi
  rw [List.getElem?_take] at hi
  split at hi
  · exact c _ _ hi
  · cases hi

theorem readAt_run {t : TypeId} {cs : List AV} {v : AV} {B o : Nat} (e : readAt P t cs = some v) (c : CellsAt μ I w cs B o) :
    ∃ u, (loadVar t ⟨B, o, none⟩).run P w = .ok u w ∧ VRel μ I v u := by
  unfold readAt at e
  unfold loadVar
  cases ha : isAggT P t with
  | none => rw [ha] at e; cases e
  | some b =>
    rw [ha] at e
    cases b with
    | true =>
      simp only at e
      cases hs : sizeT P t with
      | none => rw [hs] at e; cases e
      | some n =>
        rw [hs] at e
        simp only at e
        cases ht : takeN n cs with
        | none => rw [ht] at e; cases e
        | some l =>
          rw [ht] at e
          simp at e
          subst e
          obtain ⟨vs, h1, h2⟩ := loadCells_run (P := P) (c.take ht) (takeN_spec ht).2
          exact ⟨.agg vs.toArray, by simp [run_isAgg ha, run_sizeOf hs, h1], .agg (by simpa using h2)⟩
    | false =>
      simp only at e
      cases cs with
      | nil => cases e
      | cons x xs =>
        simp at e
        subst e
        obtain ⟨v, hv, hr⟩ := c 0 x rfl
        have hv' : w.cell? ⟨B, o, none⟩ = some v := by simpa using hv
        exact ⟨v, by simp [run_isAgg ha, hv'], hr⟩

theorem rowAt_rel (W : WRel μ I w0 h w) {a : AV} {u : Value} {cs : List AV} (e : rowAt h a = some cs) (r : VRel μ I a u) :
    ∃ B o, u = .pointer (some ⟨B, o, none⟩) ∧ CellsAt μ I w cs B o := by
  cases r <;> simp only [rowAt] at e <;> try cases e
  case ptr b off B o N hm =>
    split at e
    · rename_i cs' hb
      simp at e
      subst e
      exact ⟨B, o + off, rfl, (cellsAt_block W hb hm).drop off⟩
    · cases e
  case vptr B o c => exact ⟨B, o, rfl, cellsAt_imm W c⟩

theorem aload_run (W : WRel μ I w0 h w) {t : TypeId} {a v : AV} {u : Value} (e : aload P h t a = some v) (r : VRel μ I a u) :
    ∃ x, (Instr.loadAt t u).run P w = .ok x w ∧ VRel μ I v x := by
  unfold aload at e
  split at e
  · rename_i cs hr
    obtain ⟨B, o, rfl, c⟩ := rowAt_rel W hr r
    obtain ⟨x, h1, h2⟩ := readAt_run e c
    exact ⟨x, by simp [Instr.loadAt, Instr.sureAddr, h1], h2⟩
  · cases e

theorem ptrAdd_rel {n : Nat} {a v : AV} {u : Value} (e : ptrAdd n a = some v) (r : VRel μ I a u) :
    ∃ B o, u = .pointer (some ⟨B, o, none⟩) ∧ VRel μ I v (.pointer (some ⟨B, o + n, none⟩)) := by
  cases r <;> simp only [ptrAdd] at e <;> try cases e
  case ptr b off B o N hm =>
    exact ⟨B, o + off, rfl, by rw [show o + off + n = o + (off + n) from by omega]; exact .ptr hm⟩
  case vptr cs B o c =>
    refine ⟨B, o, rfl, .vptr ?_⟩
    by_cases hn : n ≤ cs.length
    · exact c.drop n hn
    · rw [List.drop_eq_nil_of_le (by omega)]; exact .nil

theorem afieldAddr_run {s : TypeId} {a v : AV} {f : Nat} {u : Value} (e : afieldAddr P s a f = some v) (r : VRel μ I a u) (w : World) :
    ∃ x, (Instr.fieldAt s u f).run P w = .ok x w ∧ VRel μ I v x := by
  unfold afieldAddr fieldOf at e
  unfold Instr.fieldAt
  cases hu : P.underlying s with
  | none => rw [hu] at e; cases e
  | some d =>
    rw [hu] at e
    cases d <;> simp only at e <;> try cases e
    case struct fields =>
      cases hf : fields[f]? with
      | none => rw [hf] at e; cases e
      | some fd =>
        rw [hf] at e
        simp only at e
        cases hs : sizeT P fd.type with
        | none => rw [hs] at e; cases e
        | some n =>
          rw [hs] at e
          cases n with
          | zero => cases e
          | succ n =>
            simp only at e
            obtain ⟨B, o, rfl, hv⟩ := ptrAdd_rel e r
            exact ⟨_, by simp [run_underlying hu, hf, Instr.sureAddr, fieldPlace, run_sizeOf hs, add_none], hv⟩

theorem part_run {t : TypeId} {cs : List AV} {us : Array Value} {off : Nat} {v : AV} (e : partA P t cs off = some v) (r : VRels μ I cs us.toList) (w : World) :
    ∃ x, (part t us off).run P w = .ok x w ∧ VRel μ I v x := by
  unfold partA readAt at e
  unfold part
  have hd := r.drop off
  cases ha : isAggT P t with
  | none => rw [ha] at e; cases e
  | some b =>
    rw [ha] at e
    cases b with
    | true =>
      simp only at e
      cases hs : sizeT P t with
      | none => rw [hs] at e; cases e
      | some n =>
        rw [hs] at e
        simp only at e
        cases ht : takeN n (cs.drop off) with
        | none => rw [ht] at e; cases e
        | some l =>
          rw [ht] at e
          simp at e
          subst e
          obtain ⟨rfl, hl⟩ := takeN_spec ht
          refine ⟨.agg (us.extract off (off + n)), by simp [run_isAgg ha, run_sizeOf hs], .agg ?_⟩
          have := hd.take n
          rw [Array.toList_extract]
          simpa [List.extract] using this
    | false =>
      simp only at e
      split at e
      · rename_i c l hc
        simp at e
        subst e
        have h0 : cs[off]? = some c := by
          have : (cs.drop off)[0]? = some c := by rw [hc]; rfl
          simpa using this
        obtain ⟨x, hx, hr⟩ := r.get h0
        have hx' : us[off]? = some x := by simpa using hx
        exact ⟨x, by simp [run_isAgg ha, hx'], hr⟩
      · cases e

theorem afield_run {s : TypeId} {a v : AV} {f : Nat} {u : Value} (e : afield P s a f = some v) (r : VRel μ I a u) (w : World) :
    ∃ x, (Instr.field s u f).run P w = .ok x w ∧ VRel μ I v x := by
  unfold afield fieldOf at e
  unfold Instr.field
  cases r <;> simp only at e <;> try cases e
  case agg x u r =>
    cases hu : P.underlying s with
    | none => rw [hu] at e; cases e
    | some d =>
      rw [hu] at e
      cases d <;> simp only at e <;> try cases e
      case struct fields =>
        cases hf : fields[f]? with
        | none => rw [hf] at e; cases e
        | some fd =>
          rw [hf] at e
          simp only at e
          obtain ⟨x, h1, h2⟩ := part_run e r w
          exact ⟨x, by simp [run_underlying hu, hf, asAgg, h1], h2⟩

theorem idx_spec {n : Int} {len i : Nat} (e : idx n len = some i) : n = (i : Int) ∧ i < len := by
  unfold idx at e
  split at e
  · rename_i m
    cases hb : Nat.blt m len with
    | true => rw [hb] at e; simp at e; subst e; exact ⟨rfl, by simp [Nat.blt] at hb; omega⟩
    | false => rw [hb] at e; cases e
  · cases e

theorem cond_some {α : Type} {b : Bool} {x : Option α} {v : α} (e : cond b x none = some v) : b = true ∧ x = some v := by
  cases b
  · cases e
  · exact ⟨rfl, e⟩
theorem cond_none {α : Type} {b : Bool} {x : Option α} {v : α} (e : cond b none x = some v) : b = false ∧ x = some v := by
  cases b
  · exact ⟨rfl, e⟩
  · cases e

end
end Go.Abs
