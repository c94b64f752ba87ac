/- Texts of the claim: AbsRel, AbsOps, AbsOps2, AbsOps3, AbsOps4, AbsMap, AbsOps5, AbsHeap, AbsHeavy, AbsAppend, AbsMap2, AbsPlan, AbsSim, AbsFrame, AbsRun. -/
import Derived.Test.YtbapeebnpnjaiaaDoorZ01
import Derived.Laws.Sem
import Derived.Below
import Derived.Laws.StructEq
import Derived.IntWalk
import Derived.AtR
import Derived.RangeFuncRecord
set_option linter.unusedVariables false
set_option linter.unusedSimpArgs false
/- How the abstract machine's values, heap and frames stand to the model's: the relations, and how they are kept. -/
namespace Go.Abs
open Go.RowKit (Below)

/-! ### Sparse tables -/
theorem beq_tt {a b : Nat} (h : Nat.beq a b = true) : a = b := Nat.eq_of_beq_eq_true h
theorem beq_ff {a b : Nat} (h : Nat.beq a b = false) : a ≠ b := Nat.ne_of_beq_eq_false h
theorem Heap.get_set (h : Heap) (b c : Nat) (o : AObj) : (h.set b o).get c = if c = b then some o else h.get c := Tr.get_set _ _ _ _
theorem Heap.get_kill (h : Heap) (b c : Nat) : (h.kill b).get c = if c = b then none else h.get c := Tr.get_erase _ _ _
theorem Heap.get_new (h : Heap) (c : Nat) (o : AObj) : (h.new o).get c = if c = h.next then some o else h.get c := Tr.get_set _ _ _ _

/-! ### Values -/
abbrev Mu := Nat → Option (Nat × Nat × Nat)
abbrev Imm := Nat → Nat → Option Value

mutual
inductive VRel (μ : Mu) (I : Imm) : AV → Value → Prop
  | bad (v : Value) : VRel μ I .bad v
  | bool (b : Bool) : VRel μ I (.bool b) (.bool b)
  | int (k : IntKind) (n : Int) : VRel μ I (.int k n) (.int k n)
  | str (s : ByteArray) : VRel μ I (.str s) (.string s)
  | nilp : VRel μ I .nilp (.pointer none)
  | ptr {b off B o N : Nat} : μ b = some (B, o, N) → VRel μ I (.ptr b off) (.pointer (some ⟨B, o + off, none⟩))
  | vptr {cs : List AV} {B o : Nat} : ICells μ I cs B o → VRel μ I (.vptr cs) (.pointer (some ⟨B, o, none⟩))
  | nils : VRel μ I .nils (.slice none 0 0)
  | slice {b off len sz cap B o N : Nat} : μ b = some (B, o, N) → len ≤ cap → o + off + cap * sz ≤ N → VRel μ I (.slice b off len sz) (.slice (some ⟨B, o + off, none⟩) len cap)
  | slice0 {b off sz B o N : Nat} {a : Addr} : μ b = some (B, o, N) → VRel μ I (.slice b off 0 sz) (.slice (some a) 0 0)
  | vslice {cs : List AV} {len sz cap B o : Nat} : ICells μ I cs B o → len ≤ cap → VRel μ I (.vslice cs len sz) (.slice (some ⟨B, o, none⟩) len cap)
  | vslice0 {cs : List AV} {sz : Nat} {a : Addr} : VRel μ I (.vslice cs 0 sz) (.slice (some a) 0 0)
  | nilm : VRel μ I .nilm (.map none)
  | map {b B o N : Nat} : μ b = some (B, o, N) → VRel μ I (.map b) (.map (some B))
  | nilf : VRel μ I .nilf .nilFunc
  | func {f : FuncId} {x y : List AV} {u v : Array Value} : VRels μ I x u.toList → VRels μ I y v.toList → VRel μ I (.func f x y) (.func (.func f) u v)
  | yieldf {l B o N : Nat} : μ l = some (B, o, N) → VRel μ I (.yieldf l) (.func (.yield B) #[] #[])
  | nili : VRel μ I .nili .nilIface
  | iface {t : TypeId} {x : AV} {u : Value} : VRel μ I x u → VRel μ I (.iface t x) (.iface t u)
  | agg {x : List AV} {u : Array Value} : VRels μ I x u.toList → VRel μ I (.agg x) (.agg u)
  | tuple {x : List AV} {u : Array Value} : VRels μ I x u.toList → VRel μ I (.tuple x) (.tuple u)
inductive VRels (μ : Mu) (I : Imm) : List AV → List Value → Prop
  | nil : VRels μ I [] []
  | cons {x : AV} {u : Value} {xs : List AV} {us : List Value} : VRel μ I x u → VRels μ I xs us → VRels μ I (x :: xs) (u :: us)
inductive ICells (μ : Mu) (I : Imm) : List AV → Nat → Nat → Prop
  | nil {B o : Nat} : ICells μ I [] B o
  | cons {x : AV} {u : Value} {xs : List AV} {B o : Nat} : I B o = some u → VRel μ I x u → ICells μ I xs B (o + 1) → ICells μ I (x :: xs) B o
end

/-- The package variables read as the table says. -/
class GlobI (I : Imm) : Prop where
  ok : ∀ (μ : Mu) (g : Nat), VRel μ I (gv g) (.pointer (some ⟨g, 0, none⟩))
/-- More blocks, more of memory that stays. -/
structure Ext (μ μ' : Mu) (I I' : Imm) : Prop where
  mu : ∀ b x, μ b = some x → μ' b = some x
  imm : ∀ B o v, I B o = some v → I' B o = some v

theorem Ext.refl (μ : Mu) (I : Imm) : Ext μ μ I I := ⟨fun _ _ h => h, fun _ _ _ h => h⟩
theorem Ext.trans {a b c : Mu} {i j k : Imm} (h : Ext a b i j) (g : Ext b c j k) : Ext a c i k :=
  ⟨fun x y e => g.mu x y (h.mu x y e), fun x y z e => g.imm x y z (h.imm x y z e)⟩

mutual
theorem VRel.mono {μ μ' : Mu} {I I' : Imm} (h : Ext μ μ' I I') : ∀ {x : AV} {u : Value}, VRel μ I x u → VRel μ' I' x u
  | _, _, .bad v => .bad v
  | _, _, .bool b => .bool b
  | _, _, .int k n => .int k n
  | _, _, .str s => .str s
  | _, _, .nilp => .nilp
  | _, _, .ptr e => .ptr (h.mu _ _ e)
  | _, _, .vptr e => .vptr (ICells.mono h e)
  | _, _, .nils => .nils
  | _, _, .slice e a b => .slice (h.mu _ _ e) a b
  | _, _, .slice0 e => .slice0 (h.mu _ _ e)
  | _, _, .vslice e a => .vslice (ICells.mono h e) a
  | _, _, .vslice0 => .vslice0
  | _, _, .nilm => .nilm
  | _, _, .map e => .map (h.mu _ _ e)
  | _, _, .nilf => .nilf
  | _, _, .func a b => .func (VRels.mono h a) (VRels.mono h b)
  | _, _, .yieldf e => .yieldf (h.mu _ _ e)
  | _, _, .nili => .nili
  | _, _, .iface a => .iface (VRel.mono h a)
  | _, _, .agg a => .agg (VRels.mono h a)
  | _, _, .tuple a => .tuple (VRels.mono h a)
theorem VRels.mono {μ μ' : Mu} {I I' : Imm} (h : Ext μ μ' I I') : ∀ {x : List AV} {u : List Value}, VRels μ I x u → VRels μ' I' x u
  | _, _, .nil => .nil
  | _, _, .cons a b => .cons (VRel.mono h a) (VRels.mono h b)
theorem ICells.mono {μ μ' : Mu} {I I' : Imm} (h : Ext μ μ' I I') : ∀ {x : List AV} {B o : Nat}, ICells μ I x B o → ICells μ' I' x B o
  | _, _, _, .nil => .nil
  | _, _, _, .cons e a b => .cons (h.imm _ _ _ e) (VRel.mono h a) (ICells.mono h b)
end

section
variable {μ : Mu} {I : Imm}

theorem VRels.length {x : List AV} {u : List Value} (h : VRels μ I x u) : x.length = u.length := by
  induction x generalizing u with
  | nil => cases h; rfl
  | cons a xs ih => cases h with | cons _ h => simp [ih h]

theorem VRels.get {x : List AV} {u : List Value} (h : VRels μ I x u) : ∀ {i : Nat} {a : AV}, x[i]? = some a → ∃ v, u[i]? = some v ∧ VRel μ I a v := by
  induction x generalizing u with
  | nil => intro i a e; simp at e
  | cons y xs ih =>
    intro i a e
    cases h with
    | cons h1 h2 =>
      cases i with
      | zero => simp at e; subst e; exact ⟨_, rfl, h1⟩
      | succ i => simp at e; obtain ⟨v, hv, hr⟩ := ih h2 e; exact ⟨v, by simpa using hv, hr⟩

theorem VRels.of_get : ∀ {x : List AV} {u : List Value}, x.length = u.length → (∀ (i : Nat) (a : AV) (v : Value), x[i]? = some a → u[i]? = some v → VRel μ I a v) → VRels μ I x u
  | [], [], _, _ => .nil
  | a :: x, v :: u, hl, h => .cons (h 0 a v rfl rfl) (VRels.of_get (by simpa using hl) fun i a v e f => h (i + 1) a v (by simpa using e) (by simpa using f))
  | [], _ :: _, hl, _ => by simp at hl
  | _ :: _, [], hl, _ => by simp at hl

theorem VRels.append {x y : List AV} {u v : List Value} (h : VRels μ I x u) (g : VRels μ I y v) : VRels μ I (x ++ y) (u ++ v) := by
  induction x generalizing u with
  | nil => cases h; exact g
  | cons a xs ih => cases h with | cons h1 h2 => exact .cons h1 (ih h2)

theorem VRels.take {x : List AV} {u : List Value} (h : VRels μ I x u) (n : Nat) : VRels μ I (x.take n) (u.take n) := by
  induction n generalizing x u with
  | zero => exact .nil
  | succ n ih => cases h with
    | nil => exact .nil
    | cons a b => exact .cons a (ih b)

theorem VRels.drop {x : List AV} {u : List Value} (h : VRels μ I x u) (n : Nat) : VRels μ I (x.drop n) (u.drop n) := by
  induction n generalizing x u with
  | zero => exact h
  | succ n ih => cases h with
    | nil => exact .nil
    | cons a b => exact ih b

theorem VRels.map {f : Operand → AV} {g : Operand → Value} : ∀ {l : List Operand}, (∀ x ∈ l, VRel μ I (f x) (g x)) → VRels μ I (l.map f) (l.map g)
  | [], _ => .nil
  | x :: l, h => .cons (h x (by simp)) (VRels.map fun y hy => h y (by simp [hy]))

/-- A related value that lies in one cell does so there too. -/
theorem VRel.oneCell {x : AV} {u : Value} (h : VRel μ I x u) (h1 : x.one = true) : u.oneCell' = true := by
  cases h <;> first | rfl | simp [AV.one] at h1

theorem VRels.oneCell {x : List AV} {u : List Value} (h : VRels μ I x u) (h1 : x.all AV.one = true) : ∀ v ∈ u, v.oneCell' = true := by
  induction x generalizing u with
  | nil => cases h; intro v hv; cases hv
  | cons a xs ih =>
    cases h with
    | cons h2 h3 =>
      simp only [List.all_cons, Bool.and_eq_true] at h1
      intro v hv
      rcases List.mem_cons.1 hv with rfl | hv
      · exact h2.oneCell h1.1
      · exact ih h3 h1.2 v hv

/-- The cells of a value that is not unknown. -/
theorem VRel.cells {x : AV} {u : Value} (h : VRel μ I x u) (hb : x ≠ .bad) : VRels μ I x.cells u.cells.toList := by
  cases h
  case bad => exact absurd rfl hb
  case agg a => exact a
  all_goals exact .cons (by first | assumption | constructor <;> assumption) .nil

theorem ICells.get {cs : List AV} {B o : Nat} (h : ICells μ I cs B o) : ∀ {i : Nat} {a : AV}, cs[i]? = some a → ∃ v, I B (o + i) = some v ∧ VRel μ I a v := by
  induction cs generalizing o with
  | nil => intro i a e; simp at e
  | cons y xs ih =>
    intro i a e
    cases h with
    | cons h0 h1 h2 =>
      cases i with
      | zero => simp at e; subst e; exact ⟨_, h0, h1⟩
      | succ i =>
        simp at e
        obtain ⟨v, hv, hr⟩ := ih h2 e
        exact ⟨v, by rw [show o + (i + 1) = o + 1 + i from by omega]; exact hv, hr⟩

theorem ICells.drop {cs : List AV} {B o : Nat} (h : ICells μ I cs B o) : ∀ n, n ≤ cs.length → ICells μ I (cs.drop n) B (o + n) := by
  intro n
  induction n generalizing cs o with
  | zero => intro _; exact h
  | succ n ih =>
    intro hn
    cases h with
    | nil => simp at hn
    | cons h0 h1 h2 =>
      have := ih h2 (by simpa using hn)
      rw [show o + (n + 1) = o + 1 + n from by omega]
      exact this

theorem ofC_rel : ∀ v : Value, VRel μ I (ofC v) v := by
  intro v
  cases v
  case pointer a => cases a <;> constructor
  case slice a l c =>
    cases a
    · cases l
      · cases c <;> constructor
      · constructor
    · constructor
  case map r => cases r <;> constructor
  all_goals constructor

theorem ofCs_rel : ∀ l : List Value, VRels μ I (l.map ofC) l
  | [] => .nil
  | v :: l => .cons (ofC_rel v) (ofCs_rel l)

theorem ofV_rel (v : Value) : VRel μ I (ofV v) v := by
  have h : VRel μ I (ofC v) v := ofC_rel v
  cases v
  case agg cs => exact .agg (ofCs_rel _)
  case tuple vs => exact .tuple (ofCs_rel _)
  all_goals exact h

end
end Go.Abs
/- Each operation of the abstract machine is the model's. -/
namespace Go.Abs
open Go.RowKit (Below)

/-- A deferred call. -/
inductive DRel (μ : Mu) (I : Imm) : ADef → Deferred → Prop
  | func {f : FuncId} {a : List AV} {cap args : Array Value} : VRels μ I a (args ++ cap).toList → DRel μ I { tgt := .func f, args := a } { target := .fn (.func f) cap, args }
  | collected {r B o N : Nat} {a : List AV} {args : Array Value} : μ r = some (B, o, N) → DRel μ I { tgt := .collected r, args := a } { target := .collected B, args }
inductive DRels (μ : Mu) (I : Imm) : List ADef → List Deferred → Prop
  | nil : DRels μ I [] []
  | cons {a : ADef} {d : Deferred} {as_ : List ADef} {ds : List Deferred} : DRel μ I a d → DRels μ I as_ ds → DRels μ I (a :: as_) (d :: ds)

/-- The temporaries of a frame. -/
def TRel (μ : Mu) (I : Imm) (tm : Tr AV) (tmps : Array Value) : Prop := ∀ t v, tm.get t = some v → VRel μ I v (tmps.getD t undef)

structure LRel (μ : Mu) (I : Imm) (a : ALoop) (c : Loop) : Prop where
  state : c.state = a.state
  pending : c.pending = a.pending
  fn : c.fn = a.fn
  nt : c.tmps.size = a.nt
  tm : TRel μ I a.tm c.tmps
  params : c.params = a.params
  assign : c.assign = a.assign
  body : c.body = a.body
  defers : ∃ o N, μ a.defers = some (c.defers, o, N)

inductive ERels (μ : Mu) (I : Imm) : List AEntry → List MapEntry → Prop
  | nil : ERels μ I [] []
  | cons {a : AEntry} {c : MapEntry} {as_ : List AEntry} {cs : List MapEntry} : VRel μ I a.key c.key → VRel μ I a.val c.val → a.born = c.born → ERels μ I as_ cs → ERels μ I (a :: as_) (c :: cs)

/-- A block. -/
inductive ORel (μ : Mu) (I : Imm) : AObj → Nat → Nat → Obj → Prop
  | cells {cs : List AV} {o N : Nat} {c : Array Value} {e : TypeId} : c.size = N → o + cs.length ≤ N → (∀ (i : Nat) (a : AV), cs[i]? = some a → ∃ v, c[o + i]? = some v ∧ VRel μ I a v) →
      ORel μ I (.cells cs) o N (.cells c e (0, 0))
  | map {es : List AEntry} {o N : Nat} {l : Array MapEntry} {clock : Nat} : ERels μ I es l.toList → ORel μ I (.map es clock) o N (.map l clock)
  | loop {a : ALoop} {o N : Nat} {c : Loop} : LRel μ I a c → ORel μ I (.loop a) o N (.loop c)
  | deferredNone {o N : Nat} : ORel μ I (.deferred none) o N (.deferred none)
  | deferredSome {ds : List ADef} {o N : Nat} {cs : List Deferred} : DRels μ I ds cs → ORel μ I (.deferred (some ds)) o N (.deferred (some cs))

/-- The heap and the world. -/
structure WRel (μ : Mu) (I : Imm) (w0 : World) (h : Heap) (w : World) : Prop where
  below : Below w0.heap.size w0 w
  live : ∀ b ob, h.get b = some ob → b < h.next
  mapped : ∀ b B o N, μ b = some (B, o, N) → w0.heap.size ≤ B ∧ B < w.heap.size ∧ b < h.next
  objs : ∀ b ob B o N, h.get b = some ob → μ b = some (B, o, N) → ∃ obj, w.heap[B]? = some obj ∧ ORel μ I ob o N obj
  inj : ∀ b b' ob ob' B o N o' N', h.get b = some ob → h.get b' = some ob' → μ b = some (B, o, N) → μ b' = some (B, o', N') → b = b'
  imm : ∀ B o v, I B o = some v → w.cell? ⟨B, o, none⟩ = some v ∧ w.frozen? ⟨B, o, none⟩ = w.frozen? ⟨B, o, none⟩ ∧ ∀ b ob o' N, h.get b = some ob → μ b ≠ some (B, o', N)

section
variable {P : Program} {μ : Mu} {I : Imm} {w0 w : World} {h : Heap}

theorem add_none (B o n : Nat) : (Addr.mk B o none).add n = ⟨B, o + n, none⟩ := by
  unfold Addr.add; split
  · rename_i e; subst e; rfl
  · rfl

theorem run_sizeOf {t n : Nat} (e : sizeT P t = some n) (w : World) : (sizeOf t).run P w = .ok n w := by
  unfold sizeT at e
  unfold sizeOf typeInfo
  cases hi : P.info? t with
  | none => rw [hi] at e; simp at e
  | some i => rw [hi] at e; simp at e; subst e; simp [hi]

theorem run_typeInfo {t : TypeId} {i : TypeInfo} (e : P.info? t = some i) (w : World) : (typeInfo t).run P w = .ok i w := by
  unfold typeInfo; simp [e]

theorem run_underlying {t : TypeId} {d : TypeDesc} (e : P.underlying t = some d) (w : World) : (underlying t).run P w = .ok d w := by
  unfold underlying; simp [e]

theorem run_isAgg {t : TypeId} {b : Bool} (e : isAggT P t = some b) (w : World) : (isAgg t).run P w = .ok b w := by
  unfold isAggT at e
  unfold isAgg
  cases hu : P.underlying t with
  | none => rw [hu] at e; cases e
  | some d => rw [hu] at e; simp [run_underlying hu]; cases d <;> simp at e <;> subst e <;> simp

theorem run_zeroValue {t : TypeId} {z : AV} (e : zeroA P t = some z) (w : World) : ∃ i v, P.info? t = some i ∧ i.zero = some v ∧ z = ofV v ∧ (zeroValue t).run P w = .ok v w := by
  unfold zeroA at e
  cases hi : P.info? t with
  | none => rw [hi] at e; cases e
  | some i =>
    rw [hi] at e
    simp at e
    obtain ⟨v, hv, rfl⟩ := e
    exact ⟨i, v, rfl, hv, rfl, by unfold zeroValue; simp [run_typeInfo hi, hv]⟩

/-- Cells in the world. -/
def CellsAt (μ : Mu) (I : Imm) (w : World) (cs : List AV) (B o : Nat) : Prop := ∀ (i : Nat) (a : AV), cs[i]? = some a → ∃ v, w.cell? ⟨B, o + i, none⟩ = some v ∧ VRel μ I a v

theorem CellsAt.drop {cs : List AV} {B o : Nat} (c : CellsAt μ I w cs B o) (n : Nat) : CellsAt μ I w (cs.drop n) B (o + n) := by
  intro i a e
  rw [List.getElem?_drop] at e
  obtain ⟨v, hv, hr⟩ := c _ _ e
  exact ⟨v, by rw [show o + n + i = o + (n + i) from by omega]; exact hv, hr⟩

theorem cellsAt_imm (W : WRel μ I w0 h w) {cs : List AV} {B o : Nat} (c : ICells μ I cs B o) : CellsAt μ I w cs B o := by
  intro i a e
  obtain ⟨v, hv, hr⟩ := c.get e
  exact ⟨v, (W.imm _ _ _ hv).1, hr⟩

theorem cellsAt_block (W : WRel μ I w0 h w) {b B o N : Nat} {cs : List AV} (hb : h.get b = some (.cells cs)) (hm : μ b = some (B, o, N)) : CellsAt μ I w cs B o := by
  obtain ⟨obj, ho, hr⟩ := W.objs _ _ _ _ _ hb hm
  cases hr with
  | cells h1 h2 h3 =>
    intro i a e
    obtain ⟨v, hv, hr⟩ := h3 i a e
    exact ⟨v, by simp [World.cell?, ho, hv], hr⟩

theorem loadCellsFrom_run {B o : Nat} : ∀ (n i : Nat) (cs : List AV) (acc : Array Value), (∀ (j : Nat) (a : AV), cs[j]? = some a → ∃ v, w.cell? ⟨B, o + i + j, none⟩ = some v ∧ VRel μ I a v) → cs.length = n →
    ∃ vs : List Value, (loadCellsFrom ⟨B, o, none⟩ i n acc).run P w = .ok (acc ++ vs.toArray) w ∧ VRels μ I cs vs := by
  intro n
  induction n with
  | zero =>
    intro i cs acc _ hl
    have : cs = [] := by simpa using hl
    subst this
    exact ⟨[], by simp [loadCellsFrom], .nil⟩
  | succ n ih =>
    intro i cs acc hc hl
    cases cs with
    | nil => simp at hl
    | cons a cs =>
      obtain ⟨v, hv, hr⟩ := hc 0 a rfl
      obtain ⟨vs, h1, h2⟩ := ih (i + 1) cs (acc.push v) (fun j a e => by
        obtain ⟨v, hv, hr⟩ := hc (j + 1) a (by simpa using e)
        exact ⟨v, by rw [show o + (i + 1) + j = o + i + (j + 1) from by omega]; exact hv, hr⟩) (by simpa using hl)
      refine ⟨v :: vs, ?_, .cons hr h2⟩
      have hv' : w.cell? ⟨B, o + i, none⟩ = some v := by simpa using hv
      simp only [loadCellsFrom, Sem.run_bind, run_load, add_none, hv', Result.andThen_ok, h1]
      congr 1
      apply Array.ext'
      simp

theorem loadCells_run {B o n : Nat} {cs : List AV} (c : CellsAt μ I w cs B o) (hl : cs.length = n) :
    ∃ vs : List Value, (loadCells ⟨B, o, none⟩ n).run P w = .ok vs.toArray w ∧ VRels μ I cs vs := by
  obtain ⟨vs, h1, h2⟩ := loadCellsFrom_run (P := P) (w := w) (μ := μ) (I := I) (B := B) (o := o) n 0 cs #[] (fun j a e => by simpa using c j a e) hl
  exact ⟨vs, by unfold loadCells; rw [h1]; simp, h2⟩

theorem takeN_spec : ∀ {n : Nat} {cs l : List AV}, takeN n cs = some l → l = cs.take n ∧ l.length = n
  | 0, _, _, e => by simp [takeN] at e; subst e; simp
  | n + 1, [], _, e => by simp [takeN] at e
  | n + 1, x :: xs, l, e => by
    simp only [takeN] at e
    cases h : takeN n xs with
    | none => rw [h] at e; simp at e
    | some m =>
      rw [h] at e
      simp at e
      obtain ⟨h1, h2⟩ := takeN_spec h
      subst e
      exact ⟨by simp [h1], by simp [h2]⟩

theorem CellsAt.take {cs l : List AV} {B o n : Nat} (c : CellsAt μ I w cs B o) (e : takeN n cs = some l) : CellsAt μ I w l B o := by
  obtain ⟨rfl, _⟩ := takeN_spec e
  intro i a hi
  rw [List.getElem?_take] at hi
  split at hi
  · exact c _ _ hi
  · cases hi

theorem readAt_run {t : TypeId} {cs : List AV} {v : AV} {B o : Nat} (e : readAt P t cs = some v) (c : CellsAt μ I w cs B o) :
    ∃ u, (loadVar t ⟨B, o, none⟩).run P w = .ok u w ∧ VRel μ I v u := by
  unfold readAt at e
  unfold loadVar
  cases ha : isAggT P t with
  | none => rw [ha] at e; cases e
  | some b =>
    rw [ha] at e
    cases b with
    | true =>
      simp only at e
      cases hs : sizeT P t with
      | none => rw [hs] at e; cases e
      | some n =>
        rw [hs] at e
        simp only at e
        cases ht : takeN n cs with
        | none => rw [ht] at e; cases e
        | some l =>
          rw [ht] at e
          simp at e
          subst e
          obtain ⟨vs, h1, h2⟩ := loadCells_run (P := P) (c.take ht) (takeN_spec ht).2
          exact ⟨.agg vs.toArray, by simp [run_isAgg ha, run_sizeOf hs, h1], .agg (by simpa using h2)⟩
    | false =>
      simp only at e
      cases cs with
      | nil => cases e
      | cons x xs =>
        simp at e
        subst e
        obtain ⟨v, hv, hr⟩ := c 0 x rfl
        have hv' : w.cell? ⟨B, o, none⟩ = some v := by simpa using hv
        exact ⟨v, by simp [run_isAgg ha, hv'], hr⟩

theorem rowAt_rel (W : WRel μ I w0 h w) {a : AV} {u : Value} {cs : List AV} (e : rowAt h a = some cs) (r : VRel μ I a u) :
    ∃ B o, u = .pointer (some ⟨B, o, none⟩) ∧ CellsAt μ I w cs B o := by
  cases r <;> simp only [rowAt] at e <;> try cases e
  case ptr b off B o N hm =>
    split at e
    · rename_i cs' hb
      simp at e
      subst e
      exact ⟨B, o + off, rfl, (cellsAt_block W hb hm).drop off⟩
    · cases e
  case vptr B o c => exact ⟨B, o, rfl, cellsAt_imm W c⟩

theorem aload_run (W : WRel μ I w0 h w) {t : TypeId} {a v : AV} {u : Value} (e : aload P h t a = some v) (r : VRel μ I a u) :
    ∃ x, (Instr.loadAt t u).run P w = .ok x w ∧ VRel μ I v x := by
  unfold aload at e
  split at e
  · rename_i cs hr
    obtain ⟨B, o, rfl, c⟩ := rowAt_rel W hr r
    obtain ⟨x, h1, h2⟩ := readAt_run e c
    exact ⟨x, by simp [Instr.loadAt, Instr.sureAddr, h1], h2⟩
  · cases e

theorem ptrAdd_rel {n : Nat} {a v : AV} {u : Value} (e : ptrAdd n a = some v) (r : VRel μ I a u) :
    ∃ B o, u = .pointer (some ⟨B, o, none⟩) ∧ VRel μ I v (.pointer (some ⟨B, o + n, none⟩)) := by
  cases r <;> simp only [ptrAdd] at e <;> try cases e
  case ptr b off B o N hm =>
    exact ⟨B, o + off, rfl, by rw [show o + off + n = o + (off + n) from by omega]; exact .ptr hm⟩
  case vptr cs B o c =>
    refine ⟨B, o, rfl, .vptr ?_⟩
    by_cases hn : n ≤ cs.length
    · exact c.drop n hn
    · rw [List.drop_eq_nil_of_le (by omega)]; exact .nil

theorem afieldAddr_run {s : TypeId} {a v : AV} {f : Nat} {u : Value} (e : afieldAddr P s a f = some v) (r : VRel μ I a u) (w : World) :
    ∃ x, (Instr.fieldAt s u f).run P w = .ok x w ∧ VRel μ I v x := by
  unfold afieldAddr fieldOf at e
  unfold Instr.fieldAt
  cases hu : P.underlying s with
  | none => rw [hu] at e; cases e
  | some d =>
    rw [hu] at e
    cases d <;> simp only at e <;> try cases e
    case struct fields =>
      cases hf : fields[f]? with
      | none => rw [hf] at e; cases e
      | some fd =>
        rw [hf] at e
        simp only at e
        cases hs : sizeT P fd.type with
        | none => rw [hs] at e; cases e
        | some n =>
          rw [hs] at e
          cases n with
          | zero => cases e
          | succ n =>
            simp only at e
            obtain ⟨B, o, rfl, hv⟩ := ptrAdd_rel e r
            exact ⟨_, by simp [run_underlying hu, hf, Instr.sureAddr, fieldPlace, run_sizeOf hs, add_none], hv⟩

theorem part_run {t : TypeId} {cs : List AV} {us : Array Value} {off : Nat} {v : AV} (e : partA P t cs off = some v) (r : VRels μ I cs us.toList) (w : World) :
    ∃ x, (part t us off).run P w = .ok x w ∧ VRel μ I v x := by
  unfold partA readAt at e
  unfold part
  have hd := r.drop off
  cases ha : isAggT P t with
  | none => rw [ha] at e; cases e
  | some b =>
    rw [ha] at e
    cases b with
    | true =>
      simp only at e
      cases hs : sizeT P t with
      | none => rw [hs] at e; cases e
      | some n =>
        rw [hs] at e
        simp only at e
        cases ht : takeN n (cs.drop off) with
        | none => rw [ht] at e; cases e
        | some l =>
          rw [ht] at e
          simp at e
          subst e
          obtain ⟨rfl, hl⟩ := takeN_spec ht
          refine ⟨.agg (us.extract off (off + n)), by simp [run_isAgg ha, run_sizeOf hs], .agg ?_⟩
          have := hd.take n
          rw [Array.toList_extract]
          simpa [List.extract] using this
    | false =>
      simp only at e
      split at e
      · rename_i c l hc
        simp at e
        subst e
        have h0 : cs[off]? = some c := by
          have : (cs.drop off)[0]? = some c := by rw [hc]; rfl
          simpa using this
        obtain ⟨x, hx, hr⟩ := r.get h0
        have hx' : us[off]? = some x := by simpa using hx
        exact ⟨x, by simp [run_isAgg ha, hx'], hr⟩
      · cases e

theorem afield_run {s : TypeId} {a v : AV} {f : Nat} {u : Value} (e : afield P s a f = some v) (r : VRel μ I a u) (w : World) :
    ∃ x, (Instr.field s u f).run P w = .ok x w ∧ VRel μ I v x := by
  unfold afield fieldOf at e
  unfold Instr.field
  cases r <;> simp only at e <;> try cases e
  case agg x u r =>
    cases hu : P.underlying s with
    | none => rw [hu] at e; cases e
    | some d =>
      rw [hu] at e
      cases d <;> simp only at e <;> try cases e
      case struct fields =>
        cases hf : fields[f]? with
        | none => rw [hf] at e; cases e
        | some fd =>
          rw [hf] at e
          simp only at e
          obtain ⟨x, h1, h2⟩ := part_run e r w
          exact ⟨x, by simp [run_underlying hu, hf, asAgg, h1], h2⟩

theorem idx_spec {n : Int} {len i : Nat} (e : idx n len = some i) : n = (i : Int) ∧ i < len := by
  unfold idx at e
  split at e
  · rename_i m
    cases hb : Nat.blt m len with
    | true => rw [hb] at e; simp at e; subst e; exact ⟨rfl, by simp [Nat.blt] at hb; omega⟩
    | false => rw [hb] at e; cases e
  · cases e

theorem cond_some {α : Type} {b : Bool} {x : Option α} {v : α} (e : cond b x none = some v) : b = true ∧ x = some v := by
  cases b
  · cases e
  · exact ⟨rfl, e⟩
theorem cond_none {α : Type} {b : Bool} {x : Option α} {v : α} (e : cond b none x = some v) : b = false ∧ x = some v := by
  cases b
  · exact ⟨rfl, e⟩
  · cases e

end
end Go.Abs
namespace Go.Abs
open Go.RowKit (Below)
section
variable {P : Program} {μ : Mu} {I : Imm} {w0 w : World} {h : Heap}

theorem aindexAddr_run {t : TypeId} {a i v : AV} {u x : Value} (e : aindexAddr P t a i = some v) (r : VRel μ I a u) (ri : VRel μ I i x) (w : World) :
    ∃ y, (Instr.indexAt t u x).run P w = .ok y w ∧ VRel μ I v y := by
  unfold aindexAddr at e
  unfold Instr.indexAt
  cases ri <;> simp only at e <;> try cases e
  case int k n =>
    cases hu : P.underlying t with
    | none => rw [hu] at e; cases e
    | some d =>
      rw [hu] at e
      cases d <;> simp only at e <;> try cases e
      case array len elem =>
        have main : ∀ (_ : (match idx n len, sizeT P elem with | some i, some s => ptrAdd (i * s) a | _, _ => none) = some v), ∃ y, (Instr.indexAt t u (.int k n)).run P w = .ok y w ∧ VRel μ I v y := by
          intro e'
          cases hi : idx n len with
          | none => rw [hi] at e'; cases e'
          | some i =>
            rw [hi] at e'
            cases hs : sizeT P elem with
            | none => rw [hs] at e'; cases e'
            | some s =>
              rw [hs] at e'
              simp only at e'
              obtain ⟨rfl, hl⟩ := idx_spec hi
              obtain ⟨B, o, rfl, hv⟩ := ptrAdd_rel e' r
              refine ⟨_, ?_, hv⟩
              unfold Instr.indexAt
              simp [asIntOf, run_underlying hu, Instr.sureAddr, run_sizeOf hs, hl, add_none]
        unfold Instr.indexAt at main
        cases r <;> simp only at e <;> first | exact main e | cases e
      case slice elem =>
        cases r <;> simp only at e <;> try cases e
        case slice b off len sz cap B o N hm hl hN =>
          cases hi : idx n len with
          | none => rw [hi] at e; cases e
          | some i =>
            rw [hi] at e
            cases hs : sizeT P elem with
            | none => rw [hs] at e; cases e
            | some s =>
              rw [hs] at e
              simp only at e
              obtain ⟨hb, e⟩ := cond_some e
              simp at e
              subst e
              obtain ⟨rfl, hlt⟩ := idx_spec hi
              exact ⟨.pointer (some ⟨B, o + (off + i * s), none⟩), by simp [asIntOf, run_underlying hu, run_sizeOf hs, hlt, add_none]; omega, .ptr hm⟩
        case slice0 b off sz B o N a hm =>
          have : idx n 0 = none := by
            cases hi : idx n 0 with
            | none => rfl
            | some i => have := (idx_spec hi).2; omega
          rw [this] at e
          cases e
        case vslice cs len sz cap B o hc hl =>
          cases hi : idx n len with
          | none => rw [hi] at e; cases e
          | some i =>
            rw [hi] at e
            cases hs : sizeT P elem with
            | none => rw [hs] at e; cases e
            | some s =>
              rw [hs] at e
              simp only at e
              obtain ⟨hb, e⟩ := cond_some e
              simp at e
              subst e
              obtain ⟨rfl, hlt⟩ := idx_spec hi
              refine ⟨.pointer (some ⟨B, o + i * s, none⟩), by simp [asIntOf, run_underlying hu, run_sizeOf hs, hlt, add_none], .vptr ?_⟩
              by_cases hn : i * s ≤ cs.length
              · exact hc.drop _ hn
              · rw [List.drop_eq_nil_of_le (by omega)]; exact .nil
        case vslice0 cs sz a =>
          have : idx n 0 = none := by
            cases hi : idx n 0 with
            | none => rfl
            | some i => have := (idx_spec hi).2; omega
          rw [this] at e
          cases e

theorem aindex_run {t : TypeId} {a i v : AV} {u x : Value} (e : aindex P t a i = some v) (r : VRel μ I a u) (ri : VRel μ I i x) (w : World) :
    ∃ y, (Instr.index t u x).run P w = .ok y w ∧ VRel μ I v y := by
  unfold aindex at e
  unfold Instr.index
  cases ri <;> simp only at e <;> try cases e
  case int k n =>
    cases hu : P.underlying t with
    | none => rw [hu] at e; cases e
    | some d =>
      rw [hu] at e
      cases d <;> simp only at e <;> try cases e
      case array len elem =>
        cases r <;> simp only at e <;> try cases e
        case agg cs us r =>
          cases hi : idx n len with
          | none => rw [hi] at e; cases e
          | some i =>
            rw [hi] at e
            cases hs : sizeT P elem with
            | none => rw [hs] at e; cases e
            | some s =>
              rw [hs] at e
              simp only at e
              obtain ⟨rfl, hlt⟩ := idx_spec hi
              obtain ⟨y, h1, h2⟩ := part_run e r w
              exact ⟨y, by simp [asIntOf, run_underlying hu, run_sizeOf hs, hlt, h1], h2⟩
      case string =>
        cases r <;> simp only at e <;> try cases e
        case str s =>
          cases hi : idx n s.size with
          | none => rw [hi] at e; cases e
          | some i =>
            rw [hi] at e
            simp only at e
            obtain ⟨rfl, hlt⟩ := idx_spec hi
            cases hb : s[i]? with
            | none => rw [hb] at e; cases e
            | some b =>
              rw [hb] at e
              simp at e
              subst e
              exact ⟨.int .u8 b.toNat, by simp [asIntOf, run_underlying hu, hb], .int _ _⟩

theorem bounds_spec {len : Nat} {lo hi : Option AV} {l m : Nat} (e : bounds len lo hi = some (l, m)) :
    l ≤ m ∧ m ≤ len ∧ (hi = none ∧ m = len ∨ ∃ k, hi = some (.int k m)) ∧ (lo = none ∧ l = 0 ∨ ∃ k, lo = some (.int k l)) := by
  unfold bounds at e
  cases hi with
  | none =>
    simp only at e
    cases lo with
    | none => simp at e; obtain ⟨rfl, rfl⟩ := e; exact ⟨by omega, by omega, .inl ⟨rfl, rfl⟩, .inl ⟨rfl, rfl⟩⟩
    | some x =>
      cases x <;> simp only at e <;> try cases e
      case int k n =>
        cases h1 : idx n (len + 1) with
        | none => rw [h1] at e; cases e
        | some i =>
          rw [h1] at e
          simp at e
          obtain ⟨rfl, rfl⟩ := e
          obtain ⟨rfl, h2⟩ := idx_spec h1
          exact ⟨by omega, by omega, .inl ⟨rfl, rfl⟩, .inr ⟨k, rfl⟩⟩
  | some y =>
    cases y <;> simp only at e <;> try cases e
    case int k n =>
      cases h1 : idx n (len + 1) with
      | none => rw [h1] at e; cases e
      | some j =>
        rw [h1] at e
        simp only at e
        obtain ⟨rfl, h2⟩ := idx_spec h1
        cases lo with
        | none => simp at e; obtain ⟨rfl, rfl⟩ := e; exact ⟨by omega, by omega, .inr ⟨k, rfl⟩, .inl ⟨rfl, rfl⟩⟩
        | some x =>
          cases x <;> simp only at e <;> try cases e
          case int k' n' =>
            cases h3 : idx n' (j + 1) with
            | none => rw [h3] at e; cases e
            | some i =>
              rw [h3] at e
              simp at e
              obtain ⟨rfl, rfl⟩ := e
              obtain ⟨rfl, h4⟩ := idx_spec h3
              exact ⟨by omega, by omega, .inr ⟨k, rfl⟩, .inr ⟨k', rfl⟩⟩

/-- Options of related values. -/
inductive RelO (μ : Mu) (I : Imm) : Option AV → Option Value → Prop
  | none : RelO μ I none none
  | some {a : AV} {v : Value} : VRel μ I a v → RelO μ I (some a) (some v)

theorem sliceBounds_run (isSlice : Bool) {len cap : Nat} {lo hi : Option AV} {lo' hi' : Option Value} {l m : Nat} (e : bounds len lo hi = some (l, m)) (hcap : len ≤ cap)
    (r1 : RelO μ I lo lo') (r2 : RelO μ I hi hi') (w : World) : (Instr.sliceBounds isSlice len cap lo' hi' none).run P w = .ok (l, m, cap) w := by
  obtain ⟨h1, h2, h3, h4⟩ := bounds_spec e
  unfold Instr.sliceBounds
  have q1 : ∀ (k : IntKind) (n y : Nat) (c : BoundsCode), n ≤ y → (Instr.sliceBound (.int k n) y c).run P w = .ok n w := by
    intro k n y c hle
    unfold Instr.sliceBound
    simp [asIntOf, hle]
  rcases h3 with ⟨rfl, rfl⟩ | ⟨k, rfl⟩ <;> rcases h4 with ⟨rfl, rfl⟩ | ⟨k', rfl⟩ <;> cases r1 <;> cases r2
  · simp
  · rename_i r1; cases r1; simp [q1 _ _ _ _ h1]
  · rename_i r2; cases r2; simp [q1 _ _ _ _ (Nat.le_trans h2 hcap)]
  · rename_i r1 _ r2; cases r1; cases r2; simp [q1 _ _ _ _ h1, q1 _ _ _ _ (Nat.le_trans h2 hcap)]

theorem aslice_run (W : WRel μ I w0 h w) {t : TypeId} {a v : AV} {lo hi : Option AV} {u : Value} {lo' hi' : Option Value} (e : aslice P h t a lo hi = some v) (r : VRel μ I a u)
    (r1 : RelO μ I lo lo') (r2 : RelO μ I hi hi') : ∃ y, (Instr.sliceAt t u lo' hi' none).run P w = .ok y w ∧ VRel μ I v y := by
  unfold aslice at e
  unfold Instr.sliceAt
  cases hu : P.underlying t with
  | none => rw [hu] at e; cases e
  | some d =>
    rw [hu] at e
    cases d <;> simp only at e <;> try cases e
    case array n elem =>
      cases r <;> simp only at e <;> try cases e
      case ptr b off B o N hm =>
        cases hb : h.get b with
        | none => rw [hb] at e; cases e
        | some ob =>
          rw [hb] at e
          cases hbd : bounds n lo hi with
          | none => rw [hbd] at e; cases ob <;> cases e
          | some lm =>
            obtain ⟨l, m⟩ := lm
            rw [hbd] at e
            cases hs : sizeT P elem with
            | none => rw [hs] at e; cases ob <;> cases e
            | some s =>
              rw [hs] at e
              cases ob <;> simp only at e <;> try cases e
              case cells cs =>
                obtain ⟨hc, e⟩ := cond_some e
                simp at e
                subst e
                have hc := Nat.le_of_ble_eq_true hc
                obtain ⟨b1, b2, _, _⟩ := bounds_spec hbd
                obtain ⟨obj, ho, hr⟩ := W.objs _ _ _ _ _ hb hm
                cases hr with
                | cells g1 g2 g3 =>
                  have hmul : l * s ≤ n * s := Nat.mul_le_mul_right _ (by omega)
                  refine ⟨_, by simp [run_underlying hu, Instr.sureAddr, sliceBounds_run false hbd (Nat.le_refl _) r1 r2 w, run_sizeOf hs, add_none]; rfl, ?_⟩
                  by_cases hz : n = l
                  · subst hz
                    have : m - n = 0 := by omega
                    simp only [if_pos, this, Nat.sub_self]
                    exact .slice0 hm
                  · rw [if_neg hz, show o + off + l * s = o + (off + l * s) from by omega]
                    refine .slice hm (by omega) ?_
                    have : (n - l) * s = n * s - l * s := Nat.sub_mul _ _ _
                    omega
    case string =>
      cases r <;> simp only at e <;> try cases e
      case str s =>
        cases hbd : bounds s.size lo hi with
        | none => rw [hbd] at e; cases e
        | some lm =>
          obtain ⟨l, m⟩ := lm
          rw [hbd] at e
          simp at e
          subst e
          exact ⟨.string (s.extract l m), by simp [run_underlying hu, Instr.slice, sliceBounds_run false hbd (Nat.le_refl _) r1 r2 w], .str _⟩
    case slice elem =>
      cases r <;> simp only at e <;> try cases e
      case nils =>
        cases hbd : bounds 0 lo hi with
        | none => rw [hbd] at e; cases e
        | some lm =>
          obtain ⟨l, m⟩ := lm
          rw [hbd] at e
          cases hs : sizeT P elem with
          | none => rw [hs] at e; cases e
          | some s =>
            rw [hs] at e
            simp at e
            subst e
            obtain ⟨b1, b2, _, _⟩ := bounds_spec hbd
            have hm0 : m = 0 := by omega
            have hl0 : l = 0 := by omega
            subst hm0; subst hl0
            exact ⟨.slice none 0 0, by simp [run_underlying hu, Instr.slice, sliceBounds_run true hbd (Nat.le_refl _) r1 r2 w, run_sizeOf hs], .nils⟩
      case slice b off len sz cap B o N hm hl hN =>
        cases hbd : bounds len lo hi with
        | none => rw [hbd] at e; cases e
        | some lm =>
          obtain ⟨l, m⟩ := lm
          rw [hbd] at e
          cases hs : sizeT P elem with
          | none => rw [hs] at e; cases e
          | some s =>
            rw [hs] at e
            simp only at e
            obtain ⟨hb, e⟩ := cond_some e
            have hb := beq_tt hb
            subst hb
            simp at e
            subst e
            obtain ⟨b1, b2, _, _⟩ := bounds_spec hbd
            refine ⟨_, by simp [run_underlying hu, Instr.slice, sliceBounds_run true hbd hl r1 r2 w, run_sizeOf hs, add_none]; rfl, ?_⟩
            by_cases hz : cap = l
            · subst hz
              have : m - cap = 0 := by omega
              simp only [if_pos, this, Nat.sub_self]
              exact .slice0 hm
            · rw [if_neg hz, show o + off + l * s = o + (off + l * s) from by omega]
              refine .slice hm (by omega) ?_
              have h1 : (cap - l) * s = cap * s - l * s := Nat.sub_mul _ _ _
              have h2 : l * s ≤ cap * s := Nat.mul_le_mul_right _ (by omega)
              omega
      case slice0 b off sz B o N a hm =>
        cases hbd : bounds 0 lo hi with
        | none => rw [hbd] at e; cases e
        | some lm =>
          obtain ⟨l, m⟩ := lm
          rw [hbd] at e
          cases hs : sizeT P elem with
          | none => rw [hs] at e; cases e
          | some s =>
            rw [hs] at e
            simp only at e
            obtain ⟨hb, e⟩ := cond_some e
            simp at e
            subst e
            obtain ⟨b1, b2, _, _⟩ := bounds_spec hbd
            have hm0 : m = 0 := by omega
            have hl0 : l = 0 := by omega
            subst hm0; subst hl0
            exact ⟨.slice (some a) 0 0, by simp [run_underlying hu, Instr.slice, sliceBounds_run true hbd (Nat.le_refl _) r1 r2 w, run_sizeOf hs], .slice0 hm⟩
      case vslice cs len sz cap B o hc hl =>
        cases hbd : bounds len lo hi with
        | none => rw [hbd] at e; cases e
        | some lm =>
          obtain ⟨l, m⟩ := lm
          rw [hbd] at e
          cases hs : sizeT P elem with
          | none => rw [hs] at e; cases e
          | some s =>
            rw [hs] at e
            simp only at e
            obtain ⟨hb, e⟩ := cond_some e
            simp at e
            subst e
            obtain ⟨b1, b2, _, _⟩ := bounds_spec hbd
            refine ⟨_, by simp [run_underlying hu, Instr.slice, sliceBounds_run true hbd hl r1 r2 w, run_sizeOf hs, add_none]; rfl, ?_⟩
            by_cases hz : cap = l
            · subst hz
              have : m - cap = 0 := by omega
              simp only [if_pos, this, Nat.sub_self]
              exact .vslice0
            · rw [if_neg hz]
              refine .vslice ?_ (by omega)
              by_cases hn : l * s ≤ cs.length
              · exact hc.drop _ hn
              · rw [List.drop_eq_nil_of_le (by omega)]; exact .nil
      case vslice0 cs sz a =>
        cases hbd : bounds 0 lo hi with
        | none => rw [hbd] at e; cases e
        | some lm =>
          obtain ⟨l, m⟩ := lm
          rw [hbd] at e
          cases hs : sizeT P elem with
          | none => rw [hs] at e; cases e
          | some s =>
            rw [hs] at e
            simp only at e
            obtain ⟨hb, e⟩ := cond_some e
            simp at e
            subst e
            obtain ⟨b1, b2, _, _⟩ := bounds_spec hbd
            have hm0 : m = 0 := by omega
            have hl0 : l = 0 := by omega
            subst hm0; subst hl0
            exact ⟨.slice (some a) 0 0, by simp [run_underlying hu, Instr.slice, sliceBounds_run true hbd (Nat.le_refl _) r1 r2 w, run_sizeOf hs], .vslice0⟩

end
end Go.Abs
namespace Go.Abs
open Go.RowKit (Below)
section
variable {P : Program} {μ : Mu} {I : Imm} {w0 w : World} {h : Heap}

theorem blt_lt {a b : Nat} (h : Nat.blt a b = true) : a < b := Nat.le_of_ble_eq_true h

theorem cond_wrap {α : Type} {b : Bool} {x y : α} (h : b = true → x = y) : cond b x y = y := by cases b <;> simp_all
theorem wrap_i64_nn {m M : Nat} (h : Nat.blt m M = true) (hM : (M : Int) = 9223372036854775808) : Int.ofNat m = IntKind.i64.wrap (Int.ofNat m) := by
  have := blt_lt h
  exact (IntWalk.i64_in _ (by simp; omega)).symm
theorem wrap_i64_neg {m M : Nat} (h : Nat.blt m M = true) (hM : (M : Int) = 9223372036854775808) : Int.negSucc m = IntKind.i64.wrap (Int.negSucc m) := by
  have := blt_lt h
  exact (IntWalk.i64_in _ (by omega)).symm
theorem wrap_u64_nn {m M : Nat} (h : Nat.blt m M = true) (hM : (M : Int) = 18446744073709551616) : Int.ofNat m = IntKind.u64.wrap (Int.ofNat m) := by
  have := blt_lt h
  exact (IntWalk.u64_in _ (by simp; omega)).symm
theorem awrap_eq (k : IntKind) (n : Int) : awrap k n = k.wrap n := by
  unfold awrap
  split
  · exact cond_wrap fun h => wrap_i64_nn h (by omega)
  · exact cond_wrap fun h => wrap_i64_neg h (by omega)
  · exact cond_wrap fun h => wrap_u64_nn h (by omega)
  · rfl

theorem beq_bytes (a b : ByteArray) : (a == b) = decide (a = b) := by
  rw [beq_toListBytes, Bool.eq_iff_iff, beq_iff_eq, ByteArray.toList_eq, ByteArray.toList_eq, decide_eq_true_iff]
  constructor
  · intro h; cases a; cases b; congr; exact Array.ext' h
  · intro h; rw [h]

theorem pureV_run {s : Sem Value} {v : AV} (e : pureV s = some v) (w : World) : ∃ u, s.run P w = .ok u w ∧ VRel μ I v u := by
  cases s <;> simp [pureV] at e
  subst e
  exact ⟨_, rfl, ofV_rel _⟩

theorem abinInt_run {op : BinOp} {k : IntKind} {a b : Int} {v : AV} (e : abinInt op k a b = some v) (hop : op ≠ .shl ∧ op ≠ .shr) (w : World) :
    ∃ u, (binOp op (0 : TypeId) (.int k a) (.int k b)).run P w = .ok u w ∧ VRel μ I v u := by
  cases op <;> simp only [abinInt] at e
  case shl => exact absurd rfl hop.1
  case shr => exact absurd rfl hop.2
  case add => simp at e; subst e; exact ⟨_, by simp [binOp, Op.intArith]; rfl, by rw [awrap_eq]; exact .int _ _⟩
  case sub => simp at e; subst e; exact ⟨_, by simp [binOp, Op.intArith]; rfl, by rw [awrap_eq]; exact .int _ _⟩
  case mul => simp at e; subst e; exact ⟨_, by simp [binOp, Op.intArith]; rfl, by rw [awrap_eq]; exact .int _ _⟩
  case quo =>
    obtain ⟨h0, e⟩ := cond_none e
    simp at h0 e
    subst e
    exact ⟨_, by simp [binOp, Op.intDiv, h0]; rfl, by rw [awrap_eq]; exact .int _ _⟩
  case rem =>
    obtain ⟨h0, e⟩ := cond_none e
    simp at h0 e
    subst e
    exact ⟨_, by simp [binOp, Op.intDiv, h0], .int _ _⟩
  case eql => simp at e; subst e; exact ⟨.bool (a == b), by simp [binOp, Op.intCmp], .bool _⟩
  case neq => simp at e; subst e; exact ⟨.bool (a != b), by simp [binOp, Op.intCmp], by rw [show (a != b) = !decide (a = b) from rfl]; exact .bool _⟩
  case lss => simp at e; subst e; exact ⟨_, by simp [binOp, Op.intCmp], .bool _⟩
  case leq => simp at e; subst e; exact ⟨_, by simp [binOp, Op.intCmp], .bool _⟩
  case gtr => simp at e; subst e; exact ⟨_, by simp [binOp, Op.intCmp], .bool _⟩
  case geq => simp at e; subst e; exact ⟨_, by simp [binOp, Op.intCmp], .bool _⟩
  all_goals
    obtain ⟨u, h1, h2⟩ := pureV_run (P := P) (μ := μ) (I := I) e w
    exact ⟨u, by simp [binOp]; exact h1, h2⟩

theorem binOp_int_type (op : BinOp) (t t' : TypeId) (j k : IntKind) (a b : Int) : binOp op t (.int j a) (.int k b) = binOp op t' (.int j a) (.int k b) := by
  cases op <;> rfl

set_option maxHeartbeats 2000000 in
theorem aeqIn_run : ∀ (d : Nat) {t : TypeId} {x y : AV} {u v : Value} {b : Bool}, aeqIn P d t x y = some b → VRel μ I x u → VRel μ I y v → ∀ w : World, (Op.equalIn d t u v).run P w = .ok b w := by
  intro d
  induction d with
  | zero => intro t x y u v b e; simp [aeqIn] at e
  | succ d ih =>
    intro t x y u v b e r1 r2 w
    unfold aeqIn at e
    cases hu : P.underlying t with
    | none => rw [hu] at e; cases e
    | some td =>
      rw [hu] at e
      cases td <;> simp only at e <;> try cases e
      case bool =>
        split at e <;> cases e
        cases r1; cases r2
        simp [Op.equalIn, run_underlying hu]
      case int k =>
        split at e
        · obtain ⟨hk, e'⟩ := cond_some e
          clear e
          simp at hk e'
          subst hk; subst e'
          cases r1; cases r2
          simp [Op.equalIn, run_underlying hu]
          rfl
        · cases e
      case string =>
        split at e <;> cases e
        cases r1; cases r2
        simp [Op.equalIn, run_underlying hu]
        exact beq_bytes _ _
      case pointer =>
        split at e <;> cases e <;> cases r1 <;> cases r2 <;> simp [Op.equalIn, run_underlying hu]
      case interface =>
        split at e <;> cases e <;> cases r1 <;> cases r2 <;> simp [Op.equalIn, run_underlying hu]
      case slice =>
        split at e <;> cases e <;> cases r1 <;> cases r2 <;> simp [Op.equalIn, run_underlying hu]
      case map =>
        split at e <;> cases e <;> cases r1 <;> cases r2 <;> simp [Op.equalIn, run_underlying hu]
      case func =>
        split at e <;> cases e <;> cases r1 <;> cases r2 <;> simp [Op.equalIn, run_underlying hu]
      case struct fields =>
        split at e
        case h_2 => cases e
        rename_i xs ys
        cases r1 with | agg r1 => ?_
        cases r2 with | agg r2 => ?_
        rename_i us vs
        obtain ⟨hst, e'⟩ := cond_none e
        clear e
        have e := e'
        clear e'
        rw [run_equalIn_struct w d t us vs (by rw [hu]; simp [Program.fieldsOf, hu]) hst]
        have : P.fieldsOf t = fields := by simp [Program.fieldsOf, hu]
        rw [this]
        generalize fields.toList = fs at e
        clear this hst hu
        induction fs generalizing b with
        | nil => simp at e; subst e; simp [Op.eqFields]
        | cons f fs ihf =>
          simp only [List.foldr_cons] at e
          simp only [Op.eqFields]
          by_cases hn : f.name = "_"
          · simp [hn] at e
            simp [hn]
            exact ihf e
          · simp [hn] at e
            simp only [ne_eq, hn, not_false_eq_true, if_true]
            cases h1 : partA P f.type xs f.offset with
            | none => rw [h1] at e; cases e
            | some a =>
              rw [h1] at e
              cases h2 : partA P f.type ys f.offset with
              | none => rw [h2] at e; cases e
              | some c =>
                rw [h2] at e
                simp only at e
                obtain ⟨p1, q1, s1⟩ := part_run (P := P) h1 r1 w
                obtain ⟨p2, q2, s2⟩ := part_run (P := P) h2 r2 w
                cases h3 : aeqIn P d f.type a c with
                | none => rw [h3] at e; cases e
                | some r =>
                  rw [h3] at e
                  have h4 := ih h3 s1 s2 w
                  simp only [Sem.run_bind, q1, q2, h4, Result.andThen_ok]
                  cases r with
                  | true => simp only at e; simp; exact ihf e
                  | false => simp at e; subst e; simp
      case array len elem =>
        split at e
        case h_2 => cases e
        rename_i xs ys
        cases r1 with | agg r1 => ?_
        cases r2 with | agg r2 => ?_
        rename_i us vs
        cases hs : sizeT P elem with
        | none => rw [hs] at e; cases e
        | some n =>
          rw [hs] at e
          simp only at e
          simp only [Op.equalIn, Sem.run_bind, run_underlying hu, Result.andThen_ok, run_sizeOf hs]
          rw [Std.Legacy.Range.forIn_eq_forIn_range']
          simp only [Std.Legacy.Range.size, Nat.sub_zero, Nat.add_sub_cancel, Nat.div_one]
          rw [List.range_eq_range'] at e
          generalize List.range' 0 len = l at e
          clear hu
          induction l generalizing b with
          | nil => simp at e; subst e; simp
          | cons i l ihl =>
            simp only [List.foldr_cons] at e
            simp only [List.forIn_cons, Sem.run_bind]
            cases h1 : partA P elem xs (i * n) with
            | none => rw [h1] at e; cases e
            | some a =>
              rw [h1] at e
              cases h2 : partA P elem ys (i * n) with
              | none => rw [h2] at e; cases e
              | some c =>
                rw [h2] at e
                simp only at e
                obtain ⟨p1, q1, s1⟩ := part_run (P := P) h1 r1 w
                obtain ⟨p2, q2, s2⟩ := part_run (P := P) h2 r2 w
                cases h3 : aeqIn P d elem a c with
                | none => rw [h3] at e; cases e
                | some r =>
                  rw [h3] at e
                  have h4 := ih h3 s1 s2 w
                  simp only [q1, q2, h4, Result.andThen_ok]
                  cases r with
                  | true => simp only at e; simp only [Bool.not_true, Bool.false_eq_true, if_false, Sem.run_pure, Result.andThen_ok]; exact ihl e
                  | false => simp at e; subst e; simp

theorem aconv_run {s t : TypeId} {x v : AV} {u : Value} (e : aconv P s t x = some v) (r : VRel μ I x u) (w : World) : ∃ y, (convert s t u).run P w = .ok y w ∧ VRel μ I v y := by
  unfold aconv at e
  cases h1 : P.underlying s with
  | none => rw [h1] at e; cases e
  | some a =>
    rw [h1] at e
    cases h2 : P.underlying t with
    | none => rw [h2] at e; cases e
    | some b =>
      rw [h2] at e
      cases b <;> simp only at e <;> try cases e
      case int k =>
        cases r <;> simp only at e <;> try cases e
        refine ⟨_, ?_, .int _ _⟩
        rw [awrap_eq]
        unfold convert
        simp [run_underlying h1, run_underlying h2, Conv.intToInt]
      case string =>
        cases r <;> simp only at e <;> try cases e
        refine ⟨_, ?_, .str _⟩
        unfold convert
        simp [run_underlying h1, run_underlying h2]

theorem aun_run {op : UnOp} {x v : AV} {u : Value} (e : aun op x = some v) (r : VRel μ I x u) (w : World) : ∃ y, (Op.unary op u).run P w = .ok y w ∧ VRel μ I v y := by
  unfold aun at e
  split at e
  · simp at e; subst e
    cases r
    exact ⟨_, by simp [Op.unary, Op.intArith]; rfl, by rw [awrap_eq, show Int.sub 0 _ = 0 - _ from rfl, Int.zero_sub]; exact .int _ _⟩
  · simp at e; subst e
    cases r
    exact ⟨_, by simp [Op.unary], .bool _⟩
  · cases r
    obtain ⟨y, h1, h2⟩ := pureV_run (P := P) (μ := μ) (I := I) e w
    exact ⟨y, h1, h2⟩
  · cases e

end
end Go.Abs
namespace Go.Abs
open Go.RowKit (Below)
section
variable {P : Program} {μ : Mu} {I : Imm} {w0 w : World} {h : Heap}

/-- Values that == looks at by their type. -/
def plainPair : Value → Value → Bool
  | .int _ _, .int _ _ | .float _ _, .float _ _ | .complex _ _ _, .complex _ _ _ | .string _, .string _ => false
  | _, _ => true

theorem binOp_eql {u v : Value} (t : TypeId) (hp : plainPair u v = true) : binOp .eql t u v = (do pure (.bool (← Op.equal t u v))) := by
  cases u <;> cases v <;> first | rfl | cases hp
theorem binOp_neq {u v : Value} (t : TypeId) (hp : plainPair u v = true) : binOp .neq t u v = (do pure (.bool (!(← Op.equal t u v)))) := by
  cases u <;> cases v <;> first | rfl | cases hp

theorem aeqIn_plain {d : Nat} {t : TypeId} {a b : AV} {u v : Value} {r : Bool} (e : aeqIn P d t a b = some r) (r1 : VRel μ I a u) (r2 : VRel μ I b v)
    (n1 : ∀ j m k n, a = .int j m → b = .int k n → False) (n2 : ∀ s s', a = .str s → b = .str s' → False) : plainPair u v = true := by
  have nb : a ≠ .bad ∧ b ≠ .bad := by
    constructor
    · intro q; subst q
      cases d with
      | zero => simp [aeqIn] at e
      | succ d => unfold aeqIn at e; split at e <;> simp at e
    · intro q; subst q
      cases d with
      | zero => simp [aeqIn] at e
      | succ d => unfold aeqIn at e; split at e <;> (try split at e) <;> simp_all
  cases u <;> cases v <;> first | rfl | skip
  · cases r1 with
    | bad => exact absurd rfl nb.1
    | int => cases r2 with
      | bad => exact absurd rfl nb.2
      | int => exact (n1 _ _ _ _ rfl rfl).elim
  · cases r1 with
    | bad => exact absurd rfl nb.1
  · cases r1 with
    | bad => exact absurd rfl nb.1
  · cases r1 with
    | bad => exact absurd rfl nb.1
    | str => cases r2 with
      | bad => exact absurd rfl nb.2
      | str => exact (n2 _ _ rfl rfl).elim

theorem isConst_spec {x : Operand} (h : isConst x = true) : ∃ v, x = .const v := by
  cases x <;> first | exact ⟨_, rfl⟩ | cases h

theorem eqGuard_run {op : BinOp} {t : TypeId} {x y : Operand} {a b : AV} {u v : Value} (ho : op = .eql ∨ op = .neq) (g : guardOk P t x y a b = true) (na : a ≠ .bad) (nb : b ≠ .bad) (r1 : VRel μ I a u) (r2 : VRel μ I b v) (w : World) :
    (eqGuard op t x y u v).run P w = .ok () w := by
  unfold eqGuard
  rcases ho with rfl | rfl
  all_goals
    cases r1 <;> first | exact absurd rfl na | (simp; done) | skip
    · cases r2 <;> first | exact absurd rfl nb | (simp; done) | skip
      simp only [guardOk, Bool.or_eq_true] at g
      rcases g with g | g <;> obtain ⟨c, rfl⟩ := isConst_spec g <;> simp
    · cases r2 <;> first | exact absurd rfl nb | (simp; done) | skip
      simp only [guardOk, Bool.not_eq_true'] at g
      simp [g]

theorem eqGuard_int (op : BinOp) (t : TypeId) (x y : Operand) (j k : IntKind) (m n : Int) (w : World) : (eqGuard op t x y (.int j m) (.int k n)).run P w = .ok () w := by
  unfold eqGuard; cases op <;> simp
theorem eqGuard_str (op : BinOp) (t : TypeId) (x y : Operand) (m n : ByteArray) (w : World) : (eqGuard op t x y (.string m) (.string n)).run P w = .ok () w := by
  unfold eqGuard; cases op <;> simp

theorem abin_run {op : BinOp} {t : TypeId} {x y : Operand} {a b v : AV} {u u' : Value} (e : abin P op t x y a b = some v) (r1 : VRel μ I a u) (r2 : VRel μ I b u') (w : World) :
    ∃ z, (do eqGuard op t x y u u'; binOp op t u u' : Sem Value).run P w = .ok z w ∧ VRel μ I v z := by
  unfold abin at e
  split at e
  · rename_i j m k n
    cases r1; cases r2
    simp only [Sem.run_bind, eqGuard_int, Result.andThen_ok]
    split at e
    · obtain ⟨h0, e'⟩ := cond_none e
      simp at h0 e'
      subst e'
      refine ⟨_, by simp [binOp, Op.shift, Int.not_lt.2 h0]; rfl, ?_⟩
      rw [awrap_eq]; exact .int _ _
    · obtain ⟨h0, e'⟩ := cond_none e
      simp at h0 e'
      subst e'
      exact ⟨_, by simp [binOp, Op.shift, Int.not_lt.2 h0], .int _ _⟩
    · rename_i h1 h2
      obtain ⟨hk, e'⟩ := cond_some e
      simp at hk
      subst hk
      obtain ⟨z, h3, h4⟩ := abinInt_run (P := P) (μ := μ) (I := I) e' ⟨h1, h2⟩ w
      exact ⟨z, by rw [binOp_int_type op t 0]; exact h3, h4⟩
  · cases r1; cases r2
    obtain ⟨z, h1, h2⟩ := pureV_run (P := P) (μ := μ) (I := I) e w
    refine ⟨z, ?_, h2⟩
    simp only [Sem.run_bind, eqGuard_str, Result.andThen_ok]
    rw [← h1]
    cases op <;> rfl
  · cases e
  · cases e
  · rename_i n3 n4 n1 n2
    split at e
    · obtain ⟨hg, e'⟩ := cond_some e
      cases hq : aeqIn P 10000 t a b with
      | none => rw [hq] at e'; simp at e'
      | some r =>
        rw [hq] at e'
        simp at e'
        subst e'
        have hp := aeqIn_plain hq r1 r2 (fun j m k n q q' => n1 j m k n q q') (fun s s' q q' => n2 s s' q q')
        refine ⟨.bool r, ?_, .bool _⟩
        rw [Sem.run_bind, eqGuard_run (by simp) hg (fun q => n3 q) (fun q => n4 q) r1 r2 w, Result.andThen_ok, binOp_eql t hp]
        simp [Op.equal, Op.maxDepth, aeqIn_run 10000 hq r1 r2 w]
    · obtain ⟨hg, e'⟩ := cond_some e
      cases hq : aeqIn P 10000 t a b with
      | none => rw [hq] at e'; simp at e'
      | some r =>
        rw [hq] at e'
        simp at e'
        subst e'
        have hp := aeqIn_plain hq r1 r2 (fun j m k n q q' => n1 j m k n q q') (fun s s' q q' => n2 s s' q q')
        refine ⟨.bool (!r), ?_, .bool _⟩
        rw [Sem.run_bind, eqGuard_run (by simp) hg (fun q => n3 q) (fun q => n4 q) r1 r2 w, Result.andThen_ok, binOp_neq t hp]
        simp [Op.equal, Op.maxDepth, aeqIn_run 10000 hq r1 r2 w]
    · cases e

/-! ### Literals -/
theorem VRels.splice {cs vs : List AV} {us xs : List Value} {off : Nat} (r : VRels μ I cs us) (q : VRels μ I vs xs) :
    VRels μ I (splice cs off vs) (us.take off ++ xs ++ us.drop (off + xs.length)) := by
  unfold Abs.splice
  rw [q.length]
  exact ((r.take off).append q).append (r.drop _)

theorem foldl_set (xs : List Value) : ∀ (k off : Nat) (us : Array Value), off + k + xs.length ≤ us.size →
    ((xs.zipIdx k).foldl (fun cs (c, j) => cs.setIfInBounds (off + j) c) us).toList = us.toList.take (off + k) ++ xs ++ us.toList.drop (off + k + xs.length) := by
  induction xs with
  | nil => intro k off us hl; simp
  | cons x xs ih =>
    intro k off us hl
    simp only [List.zipIdx_cons, List.foldl_cons]
    simp only [List.length_cons] at hl
    rw [ih (k + 1) off (us.setIfInBounds (off + k) x) (by simp; omega)]
    simp only [Array.toList_setIfInBounds]
    have hlt : off + k < us.toList.length := by simp; omega
    rw [show off + (k + 1) = off + k + 1 from by omega]
    rw [List.take_succ_eq_append_getElem (by simp; omega)]
    simp only [List.getElem_set_self, List.append_assoc, List.cons_append, List.nil_append, List.length_cons]
    rw [List.take_set_of_le (Nat.le_refl _), List.drop_set_of_lt (by omega)]
    rw [show off + k + 1 + xs.length = off + k + (xs.length + 1) from by omega]

theorem foldl_set_array (xs us : Array Value) (off : Nat) (hl : off + xs.size ≤ us.size) :
    (xs.zipIdx.foldl (fun cs (c, j) => cs.setIfInBounds (off + j) c) us).toList = us.toList.take off ++ xs.toList ++ us.toList.drop (off + xs.size) := by
  rw [← Array.foldl_toList, Array.toList_zipIdx]
  have := foldl_set xs.toList 0 off us (by simpa using hl)
  simpa using this

/-- Parts, each with its value. -/
inductive PRels (μ : Mu) (I : Imm) : List (Nat × AV) → List (Nat × Value) → Prop
  | nil : PRels μ I [] []
  | cons {i : Nat} {a : AV} {v : Value} {l : List (Nat × AV)} {m : List (Nat × Value)} : VRel μ I a v → PRels μ I l m → PRels μ I ((i, a) :: l) ((i, v) :: m)

theorem PRels.map {f : Operand → AV} {g : Operand → Value} : ∀ {l : List (Nat × Operand)}, (∀ p ∈ l, VRel μ I (f p.2) (g p.2)) → PRels μ I (l.map fun p => (p.1, f p.2)) (l.map fun p => (p.1, g p.2))
  | [], _ => .nil
  | (i, x) :: l, h => .cons (h _ (by simp)) (PRels.map fun p hp => h p (by simp [hp]))

theorem afill_run {place : Nat → Option (Nat × Nat)} : ∀ {parts : List (Nat × AV)} {parts' : List (Nat × Value)} {cells out : List AV} {cells' : Array Value},
    afill place cells parts = some out → PRels μ I parts parts' → VRels μ I cells cells'.toList →
    ∃ out', Instr.fill place cells' parts' = some out' ∧ VRels μ I out out'.toList
  | [], _, cells, out, cells', e, .nil, r => by simp [afill] at e; subst e; exact ⟨cells', rfl, r⟩
  | (i, a) :: rest, _, cells, out, cells', e, .cons (v := v) q qs, r => by
    unfold afill at e
    have hb : a ≠ .bad := by intro hq; subst hq; simp at e
    have e : (match place i with
      | none => none
      | some (off, size) => cond (Nat.beq a.cells.length size && Nat.ble (off + a.cells.length) cells.length) (afill place (Abs.splice cells off a.cells) rest) none) = some out := by
      cases a <;> first | exact absurd rfl hb | exact e
    unfold Instr.fill
    cases hp : place i with
    | none => rw [hp] at e; cases e
    | some os =>
      obtain ⟨off, size⟩ := os
      rw [hp] at e
      simp only at e
      obtain ⟨hc, e⟩ := cond_some e
      simp only [Bool.and_eq_true] at hc
      have h1 := beq_tt hc.1
      have h2 := Nat.le_of_ble_eq_true hc.2
      have qc := q.cells hb
      have l1 := qc.length
      have l2 := r.length
      simp only [Array.length_toList] at l1 l2
      have hno : (decide (v.cells.size ≠ size) || decide (off + v.cells.size > cells'.size)) = false := by
        simp; omega
      simp only [hno, Bool.false_eq_true, if_false]
      refine afill_run e qs ?_
      rw [foldl_set_array _ _ _ (by omega)]
      have := r.splice (off := off) qc
      simpa using this

theorem placesOf_run : ∀ {fields : List Field} {l : List (Nat × Nat)}, placesOf P fields = some l → ∀ w : World, (fields.mapM fun f => do pure (f.offset, ← sizeOf f.type) : Sem (List (Nat × Nat))).run P w = .ok l w
  | [], l, e, w => by simp [placesOf] at e; subst e; simp
  | f :: fs, l, e, w => by
    unfold placesOf at e
    cases h1 : sizeT P f.type with
    | none => rw [h1] at e; cases e
    | some s =>
      rw [h1] at e
      cases h2 : placesOf P fs with
      | none => rw [h2] at e; cases e
      | some m =>
        rw [h2] at e
        simp at e
        subst e
        have ih := placesOf_run h2 w
        simp only [List.mapM_cons, Sem.run_bind, run_sizeOf h1, Result.andThen_ok, Sem.run_pure, ih]

theorem abuild_run {t : TypeId} {parts : List (Nat × AV)} {parts' : Array (Nat × Value)} {v : AV} (e : abuild P t parts = some v) (q : PRels μ I parts parts'.toList) (w : World) :
    ∃ u, (Instr.build t parts').run P w = .ok u w ∧ VRel μ I v u := by
  unfold abuild at e
  unfold Instr.build
  cases hz : zeroA P t with
  | none => rw [hz] at e; cases e
  | some z =>
    rw [hz] at e
    obtain ⟨i, zv, hi, hzv, rfl, hrun⟩ := run_zeroValue (P := P) hz w
    cases hu : P.underlying t with
    | none => rw [hu] at e; split at e <;> cases e
    | some d =>
      rw [hu] at e
      have hr : VRel μ I (ofV zv) zv := ofV_rel zv
      split at e
      case h_2 => cases e
      rename_i zc hzc
      simp at hzc
      rw [hzc] at hr
      have hzc' : VRels μ I zc zv.cells.toList := hr.cells (by simp)
      cases d <;> simp only at e <;> try cases e
      case array n elem =>
        cases hs : sizeT P elem with
        | none => rw [hs] at e; cases e
        | some s =>
          rw [hs] at e
          simp only at e
          cases hf : afill (fun i => some (i * s, s)) zc parts with
          | none => rw [hf] at e; cases e
          | some out =>
            rw [hf] at e
            simp at e
            subst e
            obtain ⟨out', h1, h2⟩ := afill_run hf q hzc'
            exact ⟨.agg out', by simp [hrun, run_underlying hu, run_sizeOf hs, h1], .agg h2⟩
      case struct fields =>
        cases hp : placesOf P fields.toList with
        | none => rw [hp] at e; cases e
        | some l =>
          rw [hp] at e
          simp only at e
          cases hf : afill (fun i => l[i]?) zc parts with
          | none => rw [hf] at e; cases e
          | some out =>
            rw [hf] at e
            simp at e
            subst e
            obtain ⟨out', h1, h2⟩ := afill_run hf q hzc'
            refine ⟨.agg out', ?_, .agg h2⟩
            have hm := placesOf_run (P := P) hp w
            simp only [Sem.run_bind, hrun, Result.andThen_ok, run_underlying hu]
            rw [Array.mapM_eq_mapM_toList]
            simp only [Sem.run_map, hm, Result.andThen_ok]
            simp [h1]

end
end Go.Abs
/- Maps: looking up. -/
namespace Go.Abs
set_option linter.unusedSimpArgs false
set_option linter.unusedVariables false
section
variable {P : Program} {μ : Mu} {I : Imm} {w0 w : World} {h : Heap}

theorem sem_forIn_unit {α : Type} {f : α → PUnit → Sem (ForInStep PUnit)} : ∀ (l : List α), (∀ x ∈ l, (f x ⟨⟩).run P w = .ok (.yield ⟨⟩) w) → (forIn l PUnit.unit f).run P w = .ok ⟨⟩ w
  | [], _ => by simp
  | x :: l, hx => by
    have h1 := hx x (by simp)
    have h2 := sem_forIn_unit l (fun y hy => hx y (by simp [hy]))
    simp only [List.forIn_cons, Sem.run_bind, h1, Result.andThen_ok]
    exact h2

theorem keyOk_run {fl : Bool} (w : World) : ∀ (n : Nat) {t : TypeId} {v : AV} {u : Value}, keyOk P n t v = true → VRel μ I v u → (Instr.checkKey fl n t u).run P w = .ok () w
  | 0, t, v, u, e, r => by simp [keyOk] at e
  | n + 1, t, v, u, e, r => by
    unfold keyOk at e
    cases hu : P.underlying t with
    | none => rw [hu] at e; cases e
    | some d =>
      rw [hu] at e
      unfold Instr.checkKey
      simp only [Sem.run_bind, run_underlying hu, Result.andThen_ok]
      cases d
      case struct fields =>
        simp only at e
        split at e
        case h_2 => cases e
        cases r with | agg r => ?_
        rename_i cs us
        simp only [← Array.forIn_toList]
        simp only [List.all_eq_true] at e
        simp only [Sem.run_bind]
        rw [sem_forIn_unit (P := P) (w := w) fields.toList fun f hf => ?_]
        · rfl
        have ef := e f hf
        by_cases hn : f.name = "_"
        · simp [hn]
        · simp only [hn, decide_false, Bool.false_or] at ef
          cases h1 : partA P f.type cs f.offset with
          | none => rw [h1] at ef; cases ef
          | some x =>
            rw [h1] at ef
            obtain ⟨p, q, s⟩ := part_run (P := P) h1 r w
            have := keyOk_run w n ef s (fl := fl)
            simp [hn, q, this]
      case array len elem =>
        simp only at e
        split at e
        case h_2 => cases e
        cases r with | agg r => ?_
        rename_i cs us
        split at e
        case h_2 => cases e
        rename_i sz hs
        simp only [List.all_eq_true] at e
        simp only [Sem.run_bind]
        rw [Std.Legacy.Range.forIn_eq_forIn_range']
        simp only [Std.Legacy.Range.size, Nat.sub_zero, Nat.add_sub_cancel, Nat.div_one]
        rw [List.range_eq_range'] at e
        rw [sem_forIn_unit (P := P) (w := w) (List.range' 0 len) fun i hi => ?_]
        · rfl
        have ef := e i hi
        cases h1 : partA P elem cs (i * sz) with
        | none => rw [h1] at ef; cases ef
        | some x =>
          rw [h1] at ef
          obtain ⟨p, q, s⟩ := part_run (P := P) h1 r w
          have := keyOk_run w n ef s (fl := fl)
          simp [run_sizeOf hs, q, this]
      case interface ms => cases e
      all_goals simp

theorem keyNow_run {d : TypeDesc} {x y : AV} {u v : Value} {b : Bool} (e : keyNow d x y = some b) (r : VRel μ I x u) (q : VRel μ I y v) : Instr.sameNow d u v = some b := by
  unfold keyNow at e
  split at e
  · split at e
    · cases r; cases q
      obtain ⟨h1, e'⟩ := cond_some e
      simp at h1 e'
      subst h1
      subst e'
      simp [Instr.sameNow]
      rfl
    · cases e
  · split at e
    · cases r; cases q
      simp at e; subst e
      simp [Instr.sameNow, beq_bytes]
    · cases e
  · split at e
    · cases r; cases q
      simp at e; subst e
      simp [Instr.sameNow]
    · cases e
  · cases e

theorem sameNow_hard {d : TypeDesc} (h : simpleKey d = false) (u v : Value) : Instr.sameNow d u v = none := by
  cases d <;> first | (simp [simpleKey] at h; done) | rfl

/-- What a search comes to. -/
inductive FRes (μ : Mu) (I : Imm) (es : List AEntry) (ms : List MapEntry) (i0 : Nat) : Option (Nat × AV × AV) → Option (Nat × Value) → Prop
  | none : FRes μ I es ms i0 none none
  | some {i : Nat} {k v : AV} {u x : Value} {m : MapEntry} : ms[i]? = some m → m.key = x → m.val = u → VRel μ I k x → VRel μ I v u → FRes μ I es ms i0 (some (i0 + i, k, v)) (some (i0 + i, u))

theorem findE_now {kt : TypeId} {d : TypeDesc} {x : AV} {u : Value} (hd : simpleKey d = true) (r : VRel μ I x u) : ∀ {es : List AEntry} {ms : List MapEntry} {i : Nat} {o : Option (Nat × AV × AV)}, findE P kt d x es i = some o → ERels μ I es ms →
    ∃ p, Instr.findNow d u ms i = some p ∧ FRes μ I es ms i o p
  | [], _, i, o, e, .nil => by simp [findE] at e; subst e; exact ⟨none, rfl, .none⟩
  | a :: es, c :: ms, i, o, e, .cons hk hv hb hr => by
    unfold findE keyEq at e
    simp only [hd, cond_true] at e
    unfold Instr.findNow
    cases hn : keyNow d x a.key with
    | none => rw [hn] at e; cases e
    | some b =>
      rw [hn] at e
      rw [keyNow_run hn r hk]
      cases b with
      | true => simp at e; subst e; exact ⟨_, rfl, FRes.some (i := 0) (m := c) rfl rfl rfl hk hv⟩
      | false =>
        simp only at e ⊢
        obtain ⟨p, h1, h2⟩ := findE_now hd r e hr
        refine ⟨p, h1, ?_⟩
        cases h2 with
        | none => exact .none
        | some hm h3 h4 h5 h6 =>
          rename_i j k v u' x' m
          rw [show i + 1 + j = i + (j + 1) by omega]
          exact FRes.some (i := j + 1) (m := m) (by simpa using hm) h3 h4 h5 h6

theorem findE_asking {kt : TypeId} {d : TypeDesc} {x : AV} {u : Value} (hd : simpleKey d = false) (r : VRel μ I x u) (w : World) : ∀ {es : List AEntry} {ms : List MapEntry} {i : Nat} {o : Option (Nat × AV × AV)}, findE P kt d x es i = some o → ERels μ I es ms →
    ∃ p, (Instr.findAsking kt u ms i).run P w = .ok p w ∧ FRes μ I es ms i o p
  | [], _, i, o, e, .nil => by simp [findE] at e; subst e; exact ⟨none, by simp [Instr.findAsking], .none⟩
  | a :: es, c :: ms, i, o, e, .cons hk hv hb hr => by
    unfold findE keyEq at e
    simp only [hd, cond_false] at e
    unfold Instr.findAsking
    cases hn : aeqIn P 10000 kt x a.key with
    | none => rw [hn] at e; cases e
    | some b =>
      rw [hn] at e
      have hq : (Op.equal kt u c.key).run P w = .ok b w := aeqIn_run 10000 hn r hk w
      simp only [Sem.run_bind, hq, Result.andThen_ok]
      cases b with
      | true => simp at e; subst e; exact ⟨some (i, c.val), by simp, FRes.some (i := 0) (m := c) rfl rfl rfl hk hv⟩
      | false =>
        simp only at e
        obtain ⟨p, h1, h2⟩ := findE_asking hd r w e hr
        refine ⟨p, by simpa using h1, ?_⟩
        cases h2 with
        | none => exact .none
        | some hm h3 h4 h5 h6 =>
          rename_i j k v u' x' m
          rw [show i + 1 + j = i + (j + 1) by omega]
          exact FRes.some (i := j + 1) (m := m) (by simpa using hm) h3 h4 h5 h6

theorem findKey_run {kt : TypeId} {d : TypeDesc} {x : AV} {u : Value} (hk : P.underlying kt = some d) (r : VRel μ I x u) (w : World) {es : List AEntry} {ms : List MapEntry} {o : Option (Nat × AV × AV)} (e : findE P kt d x es 0 = some o) (he : ERels μ I es ms) :
    ∃ p, (Instr.findKey kt u ms).run P w = .ok p w ∧ FRes μ I es ms 0 o p := by
  unfold Instr.findKey
  simp only [Sem.run_bind, run_underlying hk, Result.andThen_ok]
  cases hd : simpleKey d with
  | true =>
    obtain ⟨p, h1, h2⟩ := findE_now (P := P) hd r e he
    exact ⟨p, by rw [h1]; rfl, h2⟩
  | false =>
    cases he with
    | nil => simp [findE] at e; subst e; exact ⟨none, by simp [Instr.findNow], .none⟩
    | cons h1 h2 h3 h4 =>
      rename_i a c es ms
      obtain ⟨p, h5, h6⟩ := findE_asking (P := P) hd r w e (.cons h1 h2 h3 h4)
      refine ⟨p, ?_, h6⟩
      simp only [Instr.findNow, sameNow_hard hd]
      exact h5

theorem mapOf_spec {t kt et : TypeId} {d : TypeDesc} (e : mapOf P t = some (kt, d, et)) : P.underlying t = some (.map kt et) ∧ P.underlying kt = some d := by
  unfold mapOf at e
  split at e
  case h_2 => cases e
  rename_i k el hu
  cases hk : P.underlying k with
  | none => rw [hk] at e; cases e
  | some q => rw [hk] at e; cases e; exact ⟨hu, hk⟩

theorem alookup_run (W : WRel μ I w0 h w) {t : TypeId} {x ix v : AV} {u ui : Value} {ok : Bool} (e : alookup P h t x ix ok = some v) (r : VRel μ I x u) (q : VRel μ I ix ui) :
    ∃ z, (Instr.lookup t u ui ok).run P w = .ok z w ∧ VRel μ I v z := by
  unfold alookup at e
  split at e
  case h_2 => cases e
  rename_i kt d et hm
  obtain ⟨ht, hk⟩ := mapOf_spec hm
  cases he : entriesOf h x with
  | none => rw [he] at e; cases e
  | some es =>
    rw [he] at e
    obtain ⟨hok, e⟩ := cond_some e
    have hent : ∃ l : Array MapEntry, ERels μ I es l.toList ∧ ((u = .map none ∧ l = #[]) ∨ ∃ B ck, u = .map (some B) ∧ (getObj B).run P w = .ok (.map l ck) w) := by
      unfold entriesOf at he
      split at he
      · cases r; cases he; exact ⟨#[], .nil, .inl ⟨rfl, rfl⟩⟩
      · rename_i b
        cases r with | map hmu => ?_
        rename_i B o N
        split at he
        case h_2 => cases he
        rename_i es' ck hb
        cases he
        obtain ⟨obj, ho, hr⟩ := W.objs _ _ _ _ _ hb hmu
        cases hr with | map hes => ?_
        rename_i l
        exact ⟨l, hes, .inr ⟨B, ck, rfl, by simp [getObj, Sem.run, ho]⟩⟩
      · cases he
    obtain ⟨l, hes, hl⟩ := hent
    have hck : ∀ fl, (Instr.checkKey fl 10000 kt ui).run P w = .ok () w := fun fl => keyOk_run w 10000 hok q
    cases hf : findE P kt d ix es 0 with
    | none => rw [hf] at e; cases e
    | some o =>
      rw [hf] at e
      obtain ⟨p, h1, h2⟩ := findKey_run hk q w hf hes
      cases h2 with
      | none =>
        simp only at e
        cases hz : zeroA P et with
        | none => rw [hz] at e; cases e
        | some z =>
          rw [hz] at e
          obtain ⟨i, zv, hi, hzv, rfl, hrun⟩ := run_zeroValue (P := P) hz w
          simp at e
          subst e
          refine ⟨if ok = true then .tuple #[zv, .bool false] else zv, ?_, ?_⟩
          · rcases hl with ⟨rfl, rfl⟩ | ⟨B, ck, rfl, hg⟩
            · simp at h1
              simp [Instr.lookup, run_underlying ht, hck, h1, hrun]
            · simp [Instr.lookup, run_underlying ht, hg, hck, h1, hrun]
          · cases ok with
            | true => exact .tuple (.cons (ofV_rel zv) (.cons (.bool _) .nil))
            | false => exact ofV_rel zv
      | some hm h3 h4 h5 h6 =>
        simp at e
        subst e
        rename_i u' x' m
        refine ⟨if ok = true then .tuple #[u', .bool true] else u', ?_, ?_⟩
        · rcases hl with ⟨rfl, rfl⟩ | ⟨B, ck, rfl, hg⟩
          · simp at hm
          · simp [Instr.lookup, run_underlying ht, hg, hck, h1]
        · cases ok with
          | true => exact .tuple (.cons h6 (.cons (.bool _) .nil))
          | false => exact h6
end
end Go.Abs
namespace Go.Abs
open Go.RowKit (Below)
section
variable {P : Program} {μ : Mu} {I : Imm} {w0 w : World} {h : Heap}

theorem alen_run (W : WRel μ I w0 h w) {t : TypeId} {x v : AV} {u : Value} {ts : Array TypeId} (ht : ts[0]? = some t) (ty : TypeId) (e : alen P h t x = some v) (r : VRel μ I x u) :
    ∃ y, (Builtin.len_ ts ty #[u]).run P w = .ok y w ∧ VRel μ I v y := by
  unfold alen at e
  unfold Builtin.len_
  simp only [ht]
  cases hu : P.underlying t with
  | none => rw [hu] at e; cases e
  | some d =>
    rw [hu] at e
    cases d <;> simp only at e <;> first | (cases e; done) | skip
    case string =>
      cases r <;> simp only at e <;> try cases e
      exact ⟨_, by simp [run_underlying hu]; rfl, .int _ _⟩
    case array n el =>
      simp at e
      subst e
      exact ⟨_, by simp [run_underlying hu]; rfl, .int _ _⟩
    case slice el =>
      cases r <;> simp only at e <;> try cases e
      all_goals exact ⟨_, by simp [run_underlying hu]; rfl, .int _ _⟩
    case map k el =>
      cases r <;> simp only at e <;> try cases e
      case nilm => exact ⟨_, by simp [run_underlying hu]; rfl, .int _ _⟩
      case map b B o N hm =>
        cases hb : h.get b with
        | none => rw [hb] at e; cases e
        | some ob =>
          rw [hb] at e
          split at e
          case h_2 => cases e
          case h_1 es ck hq =>
            cases hq
            simp at e
            subst e
            obtain ⟨obj, ho, hr⟩ := W.objs _ _ _ _ _ hb hm
            cases hr with
            | map hes =>
              rename_i l
              have hlen : es.length = l.size := by
                rw [← Array.length_toList]
                clear ho hb
                generalize l.toList = m at hes
                induction hes with
                | nil => rfl
                | cons _ _ _ _ ih => simp [ih]
              refine ⟨.int .i64 l.size, ?_, by rw [hlen]; exact .int _ _⟩
              have hg : (getObj B).run P w = .ok (.map l ck) w := by
                simp [getObj, Sem.run, ho]
              simp [run_underlying hu, hg, goInt]

theorem foldA_run {f : AV → AV → Option AV} {g : Value → Value → Sem Value} (hf : ∀ a b c u v, f a b = some c → VRel μ I a u → VRel μ I b v → ∃ z, (g u v).run P w = .ok z w ∧ VRel μ I c z) :
    ∀ {l : List AV} {m : List Value} {a c : AV} {u : Value}, foldA f a l = some c → VRel μ I a u → VRels μ I l m → ∃ z, (m.foldlM g u).run P w = .ok z w ∧ VRel μ I c z
  | [], _, a, c, u, e, r, .nil => by simp [foldA] at e; subst e; exact ⟨u, by simp, r⟩
  | b :: l, _, a, c, u, e, r, .cons (u := v) q qs => by
    unfold foldA at e
    cases hb : f a b with
    | none => rw [hb] at e; cases e
    | some d =>
      rw [hb] at e
      obtain ⟨z, h1, h2⟩ := hf a b d u v hb r q
      obtain ⟨y, h3, h4⟩ := foldA_run hf e h2 qs
      exact ⟨y, by simp [List.foldlM_cons, h1, h3], h4⟩

theorem amin2_run (a b c : AV) (u v : Value) (e : amin2 a b = some c) (r : VRel μ I a u) (q : VRel μ I b v) : ∃ z, (Builtin.min2 u v).run P w = .ok z w ∧ VRel μ I c z := by
  unfold amin2 at e
  split at e
  · cases r; cases q
    rename_i k x j y
    simp at e
    subst e
    refine ⟨_, by simp [Builtin.min2]; rfl, ?_⟩
    by_cases hlt : y < x <;> simp [hlt] <;> exact .int _ _
  · cases e
theorem amax2_run (a b c : AV) (u v : Value) (e : amax2 a b = some c) (r : VRel μ I a u) (q : VRel μ I b v) : ∃ z, (Builtin.max2 u v).run P w = .ok z w ∧ VRel μ I c z := by
  unfold amax2 at e
  split at e
  · cases r; cases q
    rename_i k x j y
    simp at e
    subst e
    refine ⟨_, by simp [Builtin.max2]; rfl, ?_⟩
    by_cases hlt : x < y <;> simp [hlt] <;> exact .int _ _
  · cases e

theorem isIface_spec {t : TypeId} (e : isIface P t = some false) : ∃ d, P.underlying t = some d ∧ ∀ ms, d ≠ .interface ms := by
  unfold isIface at e
  cases hu : P.underlying t with
  | none => rw [hu] at e; cases e
  | some d =>
    rw [hu] at e
    refine ⟨d, rfl, fun ms q => ?_⟩
    subst q
    cases e

theorem atypeAssert_run {x v : AV} {u : Value} {t xt : TypeId} {ok : Bool} (e : atypeAssert P x t ok = some v) (r : VRel μ I x u) (w : World) :
    ∃ y, (Instr.typeAssert u xt t ok).run P w = .ok y w ∧ VRel μ I v y := by
  unfold atypeAssert at e
  unfold Instr.typeAssert
  have fails : ∀ (s d : Option TypeId) (m : String), cond ok ((zeroA P t).map fun z => AV.tuple [z, .bool false]) none = some v →
      ∃ y, (if ok = true then (do pure (.tuple #[← zeroValue t, .bool false])) else runtimePanic (.typeAssertion s d t m) : Sem Value).run P w = .ok y w ∧ VRel μ I v y := by
    intro s d m e
    obtain ⟨hk, e⟩ := cond_some e
    subst hk
    cases hz : zeroA P t with
    | none => rw [hz] at e; simp at e
    | some z =>
      rw [hz] at e
      simp at e
      subst e
      obtain ⟨i, zv, hi, hzv, rfl, hrun⟩ := run_zeroValue (P := P) hz w
      exact ⟨.tuple #[zv, .bool false], by simp [hrun], .tuple (.cons (ofV_rel _) (.cons (.bool _) .nil))⟩
  split at e
  case h_2 => cases e
  case h_1 hf =>
    obtain ⟨d, hu, hd⟩ := isIface_spec hf
    have e' := e
    clear e
    simp only [Sem.run_bind, run_underlying hu, Result.andThen_ok]
    cases r <;> simp only at e' <;> try cases e'
    case nili =>
      obtain ⟨y, h1, h2⟩ := fails (some xt) none "" e'
      refine ⟨y, ?_, h2⟩
      cases d <;> first | exact absurd rfl (hd _) | exact h1
    case iface t' a b r =>
      cases hb : Nat.beq t' t with
      | true =>
        rw [hb] at e'
        have hb := beq_tt hb
        subst hb
        simp at e'
        subst e'
        cases ok with
        | true => exact ⟨.tuple #[b, .bool true], by cases d <;> first | exact absurd rfl (hd _) | simp, .tuple (.cons r (.cons (.bool _) .nil))⟩
        | false => exact ⟨b, by cases d <;> first | exact absurd rfl (hd _) | simp, r⟩
      | false =>
        rw [hb] at e'
        have hb := beq_ff hb
        simp only [cond_false] at e'
        obtain ⟨y, h1, h2⟩ := fails (some xt) (some t') "" e'
        refine ⟨y, ?_, h2⟩
        cases d <;> first | exact absurd rfl (hd _) | (simp only [hb, if_false]; exact h1)

theorem RelO.of_opt {tm : Tr AV} {ρ : Operand → Value} {x : Option Operand} (hx : ∀ y ∈ x.toList, VRel μ I (evalOp tm y) (ρ y)) : RelO μ I (optEval tm x) (x.map ρ) := by
  cases x with
  | none => exact .none
  | some y => exact .some (hx y (by simp))

theorem alight_run (W : WRel μ I w0 h w) {tm : Tr AV} {ρ : Operand → Value} {o : Oper} {v : AV} (e : alight P h tm o = some v)
    (hop : ∀ x ∈ o.op.operands.toList, VRel μ I (evalOp tm x) (ρ x)) : ∃ u, (execOp ρ o).run P w = .ok (.value u) w ∧ VRel μ I v u := by
  obtain ⟨dst, op, type, pos, after, guard⟩ := o
  unfold alight at e
  unfold execOp
  have lift : ∀ {s : Sem Value}, (∃ u, s.run P w = .ok u w ∧ VRel μ I v u) → ∃ u, (do pure (.value (← s)) : Sem Next).run P w = .ok (.value u) w ∧ VRel μ I v u := by
    rintro s ⟨u, h1, h2⟩
    exact ⟨u, by simp [h1], h2⟩
  cases op <;> simp only at e hop ⊢ <;> try cases e
  case move x => exact ⟨_, rfl, hop x (by simp [Op.operands])⟩
  case assign x => exact ⟨_, rfl, hop x (by simp [Op.operands])⟩
  case pick c a b =>
    have hc := hop c (by simp [Op.operands])
    unfold pick at e
    split at e
    · rename_i hq; rw [hq] at hc; simp at e; subst e
      generalize ρ c = rc at hc; cases hc
      exact ⟨ρ a, by simp [asBool], hop a (by simp [Op.operands])⟩
    · rename_i hq; rw [hq] at hc; simp at e; subst e
      generalize ρ c = rc at hc; cases hc
      exact ⟨ρ b, by simp [asBool], hop b (by simp [Op.operands])⟩
    · cases e
  case build t parts =>
    refine lift (abuild_run e ?_ w)
    have := PRels.map (μ := μ) (I := I) (f := evalOp tm) (g := ρ) (l := parts.toList) (fun p hp => hop p.2 (by simp [Op.operands]; exact ⟨p.1, by simpa using hp⟩))
    simpa using this
  case load t a => exact lift (aload_run W e (hop a (by simp [Op.operands])))
  case nilCheck x =>
    have hx := hop x (by simp [Op.operands])
    split at e <;> try cases e
    · rename_i hq; rw [hq] at hx; generalize ρ x = r at hx ⊢; cases hx
      exact ⟨_, rfl, .ptr (by assumption)⟩
    · rename_i hq; rw [hq] at hx; generalize ρ x = r at hx ⊢; cases hx
      exact ⟨_, rfl, .vptr (by assumption)⟩
    · rename_i hq; rw [hq] at hx; generalize ρ x = r at hx ⊢; cases hx
      exact ⟨_, rfl, .func (by assumption) (by assumption)⟩
    · rename_i hq; rw [hq] at hx; generalize ρ x = r at hx ⊢; cases hx
      exact ⟨_, rfl, .yieldf (by assumption)⟩
  case binOp op t x y yt =>
    obtain ⟨z, h1, h2⟩ := abin_run (w := w) e (hop x (by simp [Op.operands])) (hop y (by simp [Op.operands]))
    exact lift ⟨z, h1, h2⟩
  case unOp op t x => exact lift (aun_run e (hop x (by simp [Op.operands])) w)
  case convert s t x => exact lift (aconv_run e (hop x (by simp [Op.operands])) w)
  case makeInterface t x =>
    refine lift ?_
    unfold Instr.makeInterface
    split at e
    case h_2 => cases e
    case h_1 hf =>
      obtain ⟨d, hu, hd⟩ := isIface_spec hf
      simp at e
      subst e
      refine ⟨.iface t (ρ x), ?_, .iface (hop x (by simp [Op.operands]))⟩
      cases d <;> first | exact absurd rfl (hd _) | simp [run_underlying hu]
  case makeFunc fn first captured =>
    cases fn <;> simp only at e <;> try cases e
    rename_i f
    refine ⟨.func (.func f) (first.map ρ) (captured.map ρ), rfl, .func ?_ ?_⟩
    · have := VRels.map (μ := μ) (I := I) (f := evalOp tm) (g := ρ) (l := first.toList) (fun y hy => hop y (by simp [Op.operands]; left; simpa using hy))
      simpa using this
    · have := VRels.map (μ := μ) (I := I) (f := evalOp tm) (g := ρ) (l := captured.toList) (fun y hy => hop y (by simp [Op.operands]; right; simpa using hy))
      simpa using this
  case slice t x lo hi mx =>
    cases mx with
    | some m => cases e
    | none =>
      refine lift (aslice_run W e (hop x (by simp [Op.operands])) (RelO.of_opt ?_) (RelO.of_opt ?_))
      · intro y hy; exact hop y (by cases lo <;> simp_all [Op.operands])
      · intro y hy; exact hop y (by cases hi <;> simp_all [Op.operands])
  case fieldAddr t x f => exact lift (afieldAddr_run e (hop x (by simp [Op.operands])) w)
  case field t x f => exact lift (afield_run e (hop x (by simp [Op.operands])) w)
  case indexAddr t x i => exact lift (aindexAddr_run e (hop x (by simp [Op.operands])) (hop i (by simp [Op.operands])) w)
  case index t x i => exact lift (aindex_run e (hop x (by simp [Op.operands])) (hop i (by simp [Op.operands])) w)
  case typeAssert x xt t ok => exact lift (atypeAssert_run e (hop x (by simp [Op.operands])) w)
  case lookup t x ix ok => exact lift (alookup_run W e (hop x (by simp [Op.operands])) (hop ix (by simp [Op.operands])))
  case extract x i =>
    have hx := hop x (by simp [Op.operands])
    refine lift ?_
    unfold Instr.extract
    split at e
    · rename_i vs hq
      rw [hq] at hx; generalize ρ x = r at hx ⊢; cases hx with
      | tuple hr =>
        rename_i us
        obtain ⟨z, h1, h2⟩ := hr.get e
        have h1' : us[i]? = some z := by simpa using h1
        exact ⟨z, by simp [h1'], h2⟩
    · cases e
  case call c =>
    obtain ⟨callee, args, argTypes⟩ := c
    cases callee <;> simp only at e <;> try cases e
    rename_i b
    have hargs : VRels μ I (args.toList.map (evalOp tm)) (args.toList.map ρ) := VRels.map fun y hy => hop y (by simp [Op.operands, Call.operands]; simpa using hy)
    have hrun : ∀ s : Sem Value, (∃ u, s.run P w = .ok u w ∧ VRel μ I v u) → (∀ cs, builtin b argTypes type cs (args.map ρ) = (do pure (.value (← s)))) →
        ∃ u, (do let d ← resolve ρ { callee := .builtin b, args, argTypes } type; invoke d.target d.args).run P w = .ok (.value u) w ∧ VRel μ I v u := by
      rintro s ⟨u, h1, h2⟩ hb
      refine ⟨u, ?_, h2⟩
      simp only [resolve, Sem.run_bind, Sem.run_pure, Result.andThen_ok, invoke]
      rw [hb]
      simp [h1]
    split at e
    · rename_i x hx
      split at e
      · rename_i t ts hts
        rw [hx] at hargs
        simp only [List.map_cons, List.map_nil] at hargs
        cases hargs with
        | cons h1 h2 =>
        obtain ⟨y, h3, h4⟩ := alen_run (P := P) W (ts := argTypes) (by rw [← Array.getElem?_toList, hts]; rfl) type e h1
        refine hrun _ ⟨y, h3, h4⟩ fun cs => ?_
        have : args.map ρ = #[ρ x] := by apply Array.ext'; simp [hx]
        rw [this]; rfl
      · cases e
    · rename_i x xs hx
      rw [hx] at hargs
      simp only [List.map_cons] at hargs
      cases hargs with
      | cons h1 h2 =>
      obtain ⟨y, h3, h4⟩ := foldA_run (P := P) (w := w) (g := Builtin.min2) (fun a b c u v => amin2_run a b c u v) e h1 h2
      refine hrun (Builtin.min_ argTypes type (args.map ρ)) ⟨y, ?_, h4⟩ fun cs => rfl
      unfold Builtin.min_
      simp only [Array.toList_map, hx, List.map_cons]
      exact h3
    · rename_i x xs hx
      rw [hx] at hargs
      simp only [List.map_cons] at hargs
      cases hargs with
      | cons h1 h2 =>
      obtain ⟨y, h3, h4⟩ := foldA_run (P := P) (w := w) (g := Builtin.max2) (fun a b c u v => amax2_run a b c u v) e h1 h2
      refine hrun (Builtin.max_ argTypes type (args.map ρ)) ⟨y, ?_, h4⟩ fun cs => rfl
      unfold Builtin.max_
      simp only [Array.toList_map, hx, List.map_cons]
      exact h3
    · cases e

end
end Go.Abs
/- The operations that turn memory. -/
namespace Go.Abs
open Go.RowKit (Below)

def upd (μ : Mu) (b : Nat) (x : Nat × Nat × Nat) : Mu := fun c => if c = b then some x else μ c
theorem upd_self (μ : Mu) (b : Nat) (x : Nat × Nat × Nat) : upd μ b x b = some x := by simp [upd]
theorem upd_ne (μ : Mu) {b c : Nat} (x : Nat × Nat × Nat) (h : c ≠ b) : upd μ b x c = μ c := by simp [upd, h]
theorem Ext.upd {μ : Mu} {I : Imm} {b : Nat} {x : Nat × Nat × Nat} (h : μ b = none) : Ext μ (Abs.upd μ b x) I I :=
  ⟨fun c y e => by
    by_cases hc : c = b
    · subst hc; rw [h] at e; cases e
    · rw [upd_ne _ _ hc]; exact e, fun _ _ _ e => e⟩

section
variable {μ μ' : Mu} {I I' : Imm}

theorem DRel.mono (x : Ext μ μ' I I') {a : ADef} {d : Deferred} (h : DRel μ I a d) : DRel μ' I' a d := by
  cases h with
  | func h => exact .func (h.mono x)
  | collected h => exact .collected (x.mu _ _ h)
theorem DRels.mono (x : Ext μ μ' I I') {a : List ADef} {d : List Deferred} (h : DRels μ I a d) : DRels μ' I' a d := by
  induction h with
  | nil => exact .nil
  | cons h _ ih => exact .cons (h.mono x) ih
theorem DRels.append {a b : List ADef} {c d : List Deferred} (h : DRels μ I a c) (g : DRels μ I b d) : DRels μ I (a ++ b) (c ++ d) := by
  induction h with
  | nil => exact g
  | cons h _ ih => exact .cons h ih
theorem TRel.mono (x : Ext μ μ' I I') {tm : Tr AV} {t : Array Value} (h : TRel μ I tm t) : TRel μ' I' tm t := fun k v e => (h k v e).mono x
theorem LRel.mono (x : Ext μ μ' I I') {a : ALoop} {c : Loop} (h : LRel μ I a c) : LRel μ' I' a c :=
  ⟨h.state, h.pending, h.fn, h.nt, h.tm.mono x, h.params, h.assign, h.body, by obtain ⟨o, N, e⟩ := h.defers; exact ⟨o, N, x.mu _ _ e⟩⟩
theorem ERels.mono (x : Ext μ μ' I I') {a : List AEntry} {d : List MapEntry} (h : ERels μ I a d) : ERels μ' I' a d := by
  induction h with
  | nil => exact .nil
  | cons h g b _ ih => exact .cons (h.mono x) (g.mono x) b ih
theorem ORel.mono (x : Ext μ μ' I I') {a : AObj} {o N : Nat} {ob : Obj} (h : ORel μ I a o N ob) : ORel μ' I' a o N ob := by
  cases h with
  | cells h1 h2 h3 => exact .cells h1 h2 fun i a e => let ⟨v, hv, hr⟩ := h3 i a e; ⟨v, hv, hr.mono x⟩
  | map h => exact .map (h.mono x)
  | loop h => exact .loop (h.mono x)
  | deferredNone => exact .deferredNone
  | deferredSome h => exact .deferredSome (h.mono x)
end

def _root_.Go.World.putBlock (w : World) (B : Nat) (ob : Obj) : World := { w with heap := w.heap.setIfInBounds B ob }
def _root_.Go.World.pushBlock (w : World) (ob : Obj) : World := { w with heap := w.heap.push ob }

section
variable {P : Program} {μ : Mu} {I : Imm} {w0 w : World} {h : Heap}

theorem putBlock_get (w : World) (B C : Nat) (ob : Obj) (hB : B < w.heap.size) : (w.putBlock B ob).heap[C]? = if C = B then some ob else w.heap[C]? := by
  simp only [World.putBlock, Array.getElem?_setIfInBounds]
  by_cases e : C = B
  · subst e; simp [hB]
  · rw [if_neg (fun q => e q.symm), if_neg e]
theorem putBlock_size (w : World) (B : Nat) (ob : Obj) : (w.putBlock B ob).heap.size = w.heap.size := by simp [World.putBlock]
theorem pushBlock_get (w : World) (C : Nat) (ob : Obj) : (w.pushBlock ob).heap[C]? = if C = w.heap.size then some ob else w.heap[C]? := by
  simp only [World.pushBlock, Array.getElem?_push]
theorem pushBlock_size (w : World) (ob : Obj) : (w.pushBlock ob).heap.size = w.heap.size + 1 := by simp [World.pushBlock]

theorem cell?_eq {w w' : World} {B o : Nat} (h : w'.heap[B]? = w.heap[B]?) : w'.cell? ⟨B, o, none⟩ = w.cell? ⟨B, o, none⟩ := by
  simp [World.cell?, h]
theorem cell?_lt {w : World} {B o : Nat} {v : Value} (h : w.cell? ⟨B, o, none⟩ = some v) : B < w.heap.size := by
  unfold World.cell? at h
  cases hb : w.heap[B]? with
  | none => simp [hb] at h
  | some x => exact (Array.getElem?_eq_some_iff.1 hb).1

theorem WRel.drew (W : WRel μ I w0 h w) (n : Nat) : WRel μ I w0 h { w with drawn := n } :=
  ⟨⟨W.below.os, W.below.tape, W.below.output, W.below.size, W.below.block⟩, W.live, W.mapped, W.objs, W.inj, W.imm⟩

theorem WRel.kill (W : WRel μ I w0 h w) (b : Nat) : WRel μ I w0 (h.kill b) w := by
  have hk : ∀ c ob, (h.kill b).get c = some ob → h.get c = some ob := by
    intro c ob e; rw [Heap.get_kill] at e; split at e
    · cases e
    · exact e
  exact ⟨W.below, fun c ob e => W.live c ob (hk c ob e), W.mapped, fun c ob B o N e m => W.objs c ob B o N (hk c ob e) m,
    fun c c' ob ob' B o N o' N' e e' => W.inj c c' ob ob' B o N o' N' (hk _ _ e) (hk _ _ e'),
    fun B o v e => ⟨(W.imm B o v e).1, rfl, fun c ob o' N e' => (W.imm B o v e).2.2 c ob o' N (hk _ _ e')⟩⟩

theorem WRel.next_none (W : WRel μ I w0 h w) : μ h.next = none := by
  cases e : μ h.next with
  | none => rfl
  | some x => obtain ⟨B, o, N⟩ := x; have := (W.mapped _ _ _ _ e).2.2; omega

theorem WRel.new (W : WRel μ I w0 h w) (ob : AObj) : WRel μ I w0 (h.new ob) w := by
  have hn := W.next_none
  have hk : ∀ c o, (h.new ob).get c = some o → (c = h.next ∨ h.get c = some o) := by
    intro c o e; rw [Heap.get_new] at e; split at e
    · exact .inl ‹_›
    · exact .inr e
  have hm : ∀ c o x, (h.new ob).get c = some o → μ c = some x → h.get c = some o := by
    intro c o x e m
    rcases hk c o e with rfl | q
    · rw [hn] at m; cases m
    · exact q
  refine ⟨W.below, fun c o e => ?_, fun b B o N e => ?_, fun c o B o' N e m => W.objs c o B o' N (hm _ _ _ e m) m,
    fun c c' o o' B x y z t e e' m m' => W.inj c c' o o' B x y z t (hm _ _ _ e m) (hm _ _ _ e' m') m m', fun B o v e => ⟨(W.imm B o v e).1, rfl, fun c ob' o' N e' m => (W.imm B o v e).2.2 c ob' o' N (hm _ _ _ e' m) m⟩⟩
  · rcases hk c o e with rfl | q
    · show h.next < h.next + 1; omega
    · have := W.live _ _ q; show c < h.next + 1; omega
  · obtain ⟨a, b', c⟩ := W.mapped _ _ _ _ e
    exact ⟨a, b', by show b < h.next + 1; omega⟩

/-- A block that the abstract heap has already comes to be in the world. -/
theorem WRel.push (W : WRel μ I w0 h w) {b N : Nat} {ob : AObj} {o : Obj} (hb : h.get b = some ob) (hm : μ b = none) (hr : ORel (upd μ b (w.heap.size, 0, N)) I ob 0 N o) :
    WRel (upd μ b (w.heap.size, 0, N)) I w0 h (w.pushBlock o) := by
  have hx : Ext μ (upd μ b (w.heap.size, 0, N)) I I := .upd hm
  refine ⟨⟨W.below.os, W.below.tape, W.below.output, ?_, fun k hk => ?_⟩, W.live, fun c B o' N' e => ?_, fun c ob' B o' N' e m => ?_, fun c c' o1 o2 B x y z t e e' m m' => ?_, fun B o' v e => ?_⟩
  · rw [pushBlock_size]; have := W.below.size; omega
  · rw [pushBlock_get, if_neg (by have := W.below.size; omega)]; exact W.below.block k hk
  · rw [pushBlock_size]
    by_cases hc : c = b
    · subst hc; rw [upd_self] at e; cases e
      exact ⟨W.below.size, by omega, W.live _ _ hb⟩
    · rw [upd_ne _ _ hc] at e
      obtain ⟨a1, a2, a3⟩ := W.mapped _ _ _ _ e
      exact ⟨a1, by omega, a3⟩
  · by_cases hc : c = b
    · subst hc; rw [upd_self] at m; cases m
      rw [hb] at e; cases e
      exact ⟨o, by rw [pushBlock_get, if_pos rfl], hr⟩
    · rw [upd_ne _ _ hc] at m
      obtain ⟨q, h1, h2⟩ := W.objs _ _ _ _ _ e m
      have := (W.mapped _ _ _ _ m).2.1
      exact ⟨q, by rw [pushBlock_get, if_neg (by omega)]; exact h1, h2.mono hx⟩
  · by_cases hc : c = b
    · by_cases hc' : c' = b
      · rw [hc, hc']
      · subst hc; rw [upd_self] at m; cases m
        rw [upd_ne _ _ hc'] at m'
        have := (W.mapped _ _ _ _ m').2.1; omega
    · rw [upd_ne _ _ hc] at m
      by_cases hc' : c' = b
      · subst hc'; rw [upd_self] at m'; cases m'
        have := (W.mapped _ _ _ _ m).2.1; omega
      · rw [upd_ne _ _ hc'] at m'
        exact W.inj _ _ _ _ _ _ _ _ _ e e' m m'
  · obtain ⟨h1, _, h2⟩ := W.imm _ _ _ e
    have hlt := cell?_lt h1
    refine ⟨by rw [cell?_eq (w := w)]; exact h1; rw [pushBlock_get, if_neg (by omega)], rfl, fun c ob' o'' N' e' m => ?_⟩
    by_cases hc : c = b
    · subst hc; rw [upd_self] at m; cases m; omega
    · rw [upd_ne _ _ hc] at m; exact h2 _ _ _ _ e' m

/-- A block is written. -/
theorem WRel.update (W : WRel μ I w0 h w) {b B o N : Nat} {ob ob' : AObj} {q : Obj} (hb : h.get b = some ob) (hm : μ b = some (B, o, N)) (hr : ORel μ I ob' o N q) :
    WRel μ I w0 (h.set b ob') (w.putBlock B q) := by
  obtain ⟨b1, b2, b3⟩ := W.mapped _ _ _ _ hm
  have hk : ∀ c x, (h.set b ob').get c = some x → (c = b ∧ x = ob') ∨ (c ≠ b ∧ h.get c = some x) := by
    intro c x e; rw [Heap.get_set] at e; split at e
    · cases e; exact .inl ⟨‹_›, rfl⟩
    · exact .inr ⟨‹_›, e⟩
  have hex : ∀ c x, (h.set b ob').get c = some x → ∃ y, h.get c = some y := by
    intro c x e; rcases hk c x e with ⟨rfl, _⟩ | ⟨_, q⟩
    · exact ⟨_, hb⟩
    · exact ⟨_, q⟩
  refine ⟨⟨W.below.os, W.below.tape, W.below.output, by rw [putBlock_size]; exact W.below.size, fun k hk => ?_⟩, fun c x e => ?_, fun c B' o' N' e => ?_, fun c x B' o' N' e m => ?_, fun c c' o1 o2 B' x y z t e e' m m' => ?_, fun B' o' v e => ?_⟩
  · rw [putBlock_get _ _ _ _ b2, if_neg (by omega)]; exact W.below.block k hk
  · obtain ⟨y, hy⟩ := hex _ _ e; exact W.live _ _ hy
  · rw [putBlock_size]; exact W.mapped _ _ _ _ e
  · rcases hk c x e with ⟨rfl, rfl⟩ | ⟨hc, hx⟩
    · rw [hm] at m; cases m
      exact ⟨q, by rw [putBlock_get _ _ _ _ b2, if_pos rfl], hr⟩
    · obtain ⟨p, h1, h2⟩ := W.objs _ _ _ _ _ hx m
      refine ⟨p, ?_, h2⟩
      rw [putBlock_get _ _ _ _ b2, if_neg ?_]
      · exact h1
      · intro e'; subst e'; exact hc (W.inj _ _ _ _ _ _ _ _ _ hx hb m hm)
  · obtain ⟨y, hy⟩ := hex _ _ e
    obtain ⟨y', hy'⟩ := hex _ _ e'
    exact W.inj _ _ _ _ _ _ _ _ _ hy hy' m m'
  · obtain ⟨h1, _, h2⟩ := W.imm _ _ _ e
    have hne : B' ≠ B := fun q => by subst q; exact h2 _ _ _ _ hb hm
    refine ⟨by rw [cell?_eq (w := w)]; exact h1; rw [putBlock_get _ _ _ _ b2, if_neg hne], rfl, fun c x o'' N' e' m => ?_⟩
    obtain ⟨y, hy⟩ := hex _ _ e'
    exact h2 _ _ _ _ hy m

/-- A new abstract block takes over a block of the world that no other one has. -/
theorem WRel.take (W : WRel μ I w0 h w) {b B o N : Nat} {ob : AObj} {q : Obj} (hb : h.get b = some ob) (hm : μ b = none) (b1 : w0.heap.size ≤ B) (b2 : B < w.heap.size)
    (hfree : ∀ c x o' N', h.get c = some x → μ c ≠ some (B, o', N')) (himm : ∀ o' v, I B o' ≠ some v) (hr : ORel (upd μ b (B, o, N)) I ob o N q) :
    WRel (upd μ b (B, o, N)) I w0 h (w.putBlock B q) := by
  have hx : Ext μ (upd μ b (B, o, N)) I I := .upd hm
  refine ⟨⟨W.below.os, W.below.tape, W.below.output, by rw [putBlock_size]; exact W.below.size, fun k hk => ?_⟩, W.live, fun c B' o' N' e => ?_, fun c x B' o' N' e m => ?_, fun c c' o1 o2 B' x y z t e e' m m' => ?_, fun B' o' v e => ?_⟩
  · rw [putBlock_get _ _ _ _ b2, if_neg (by omega)]; exact W.below.block k hk
  · rw [putBlock_size]
    by_cases hc : c = b
    · subst hc; rw [upd_self] at e; cases e; exact ⟨b1, b2, W.live _ _ hb⟩
    · rw [upd_ne _ _ hc] at e; exact W.mapped _ _ _ _ e
  · by_cases hc : c = b
    · subst hc; rw [upd_self] at m; cases m; rw [hb] at e; cases e
      exact ⟨q, by rw [putBlock_get _ _ _ _ b2, if_pos rfl], hr⟩
    · rw [upd_ne _ _ hc] at m
      obtain ⟨p, h1, h2⟩ := W.objs _ _ _ _ _ e m
      refine ⟨p, ?_, h2.mono hx⟩
      rw [putBlock_get _ _ _ _ b2, if_neg ?_]
      · exact h1
      · intro e'; subst e'; exact hfree _ _ _ _ e m
  · by_cases hc : c = b
    · by_cases hc' : c' = b
      · rw [hc, hc']
      · subst hc; rw [upd_self] at m; cases m
        rw [upd_ne _ _ hc'] at m'
        exact (hfree _ _ _ _ e' m').elim
    · rw [upd_ne _ _ hc] at m
      by_cases hc' : c' = b
      · subst hc'; rw [upd_self] at m'; cases m'
        exact (hfree _ _ _ _ e m).elim
      · rw [upd_ne _ _ hc'] at m'
        exact W.inj _ _ _ _ _ _ _ _ _ e e' m m'
  · obtain ⟨h1, _, h2⟩ := W.imm _ _ _ e
    have hne : B' ≠ B := fun q => by subst q; exact himm _ _ e
    refine ⟨by rw [cell?_eq (w := w)]; exact h1; rw [putBlock_get _ _ _ _ b2, if_neg hne], rfl, fun c x o'' N' e' m => ?_⟩
    by_cases hc : c = b
    · subst hc; rw [upd_self] at m; cases m; exact hne rfl
    · rw [upd_ne _ _ hc] at m; exact h2 _ _ _ _ e' m

/-! ### Stores -/
theorem modify_eq (w : World) (B : Nat) (x : Obj) (f : Obj → Obj) (hx : w.heap[B]? = some x) : w.heap.modify B f = w.heap.setIfInBounds B (f x) := by
  apply Array.ext_getElem?
  intro i
  rw [Array.getElem?_modify, Array.getElem?_setIfInBounds]
  by_cases e : B = i
  · subst e
    obtain ⟨h1, h2⟩ := Array.getElem?_eq_some_iff.1 hx
    simp [h1, h2]
  · simp [e]

theorem setCell_put (w : World) {B o : Nat} {c : Array Value} {e : TypeId} {fr : Nat × Nat} (hx : w.heap[B]? = some (.cells c e fr)) (v : Value) :
    w.setCell ⟨B, o, none⟩ v = w.putBlock B (.cells (c.setIfInBounds o v) e fr) := by
  unfold World.setCell World.putBlock
  simp only [modify_eq w B _ _ hx]
  rfl

theorem putBlock_put (w : World) (B : Nat) (x y : Obj) : (w.putBlock B x).putBlock B y = w.putBlock B y := by
  simp [World.putBlock]

theorem putBlock_same (w : World) {B : Nat} {x : Obj} (hx : w.heap[B]? = some x) : w.putBlock B x = w := by
  obtain ⟨h2, h3⟩ := Array.getElem?_eq_some_iff.1 hx
  have : w.heap.setIfInBounds B x = w.heap := by
    apply Array.ext_getElem?
    intro k
    rw [Array.getElem?_setIfInBounds]
    split
    · rename_i q; subst q; simp [h2, h3]
    · rfl
  unfold World.putBlock
  rw [this]

theorem storeCells_run {B o : Nat} {e : TypeId} : ∀ (vs : List Value) (i : Nat) (c : Array Value) (w : World), w.heap[B]? = some (.cells c e (0, 0)) → o + i + vs.length ≤ c.size → (∀ v ∈ vs, v.oneCell' = true) →
    ∃ c' : Array Value, (storeCells ⟨B, o, none⟩ vs i).run P w = .ok () (w.putBlock B (.cells c' e (0, 0))) ∧ c'.toList = c.toList.take (o + i) ++ vs ++ c.toList.drop (o + i + vs.length) := by
  intro vs
  induction vs with
  | nil =>
    intro i c w hx hl h1
    refine ⟨c, ?_, by simp⟩
    simp only [storeCells, Sem.run_pure]
    rw [putBlock_same w hx]
  | cons v vs ih =>
    intro i c w hx hl h1
    have hB := (Array.getElem?_eq_some_iff.1 hx).1
    simp only [List.length_cons] at hl
    have hcell : ∃ u, w.cell? ⟨B, o + i, none⟩ = some u := by
      have : o + i < c.size := by omega
      exact ⟨c[o + i], by simp [World.cell?, hx, this]⟩
    obtain ⟨u, hu⟩ := hcell
    have hfr : w.frozen? ⟨B, o + i, none⟩ = false := by simp [World.frozen?, hx]
    have hx' : (w.putBlock B (.cells (c.setIfInBounds (o + i) v) e (0, 0))).heap[B]? = some (.cells (c.setIfInBounds (o + i) v) e (0, 0)) := by rw [putBlock_get _ _ _ _ hB, if_pos rfl]
    obtain ⟨c', h2, h3⟩ := ih (i + 1) (c.setIfInBounds (o + i) v) _ hx' (by simp; omega) (fun x hx => h1 x (by simp [hx]))
    refine ⟨c', ?_, ?_⟩
    · have hv := h1 v (by simp)
      simp only [storeCells, Sem.run_bind, add_none]
      rw [run_store P w _ _ _ hv, hu]
      simp only [hfr, Bool.false_eq_true, if_false, Result.andThen_ok]
      rw [setCell_put w hx, h2, putBlock_put]
    · rw [h3]
      simp only [Array.toList_setIfInBounds]
      have hlt : o + i < c.toList.length := by simp; omega
      rw [show o + (i + 1) = o + i + 1 from by omega]
      rw [List.take_succ_eq_append_getElem (by simp; omega)]
      simp only [List.getElem_set_self, List.append_assoc, List.cons_append, List.nil_append, List.length_cons]
      rw [List.take_set_of_le (Nat.le_refl _), List.drop_set_of_lt (by omega)]
      rw [show o + i + 1 + vs.length = o + i + (vs.length + 1) from by omega]

end
end Go.Abs
/- Stores, new blocks, append, copy. -/
namespace Go.Abs
open Go.RowKit (Below)
section
variable {P : Program} {μ : Mu} {I : Imm} {w0 w : World} {h : Heap}

theorem splice_length {cs vs : List AV} {off : Nat} (hl : off + vs.length ≤ cs.length) : (splice cs off vs).length = cs.length := by
  simp [splice]; omega

/-- Cells of a block, spliced on both sides. -/
theorem cells_splice {cs vs : List AV} {c c' : Array Value} {xs : List Value} {o N off : Nat}
    (h1 : c.size = N) (h2 : o + cs.length ≤ N) (h3 : ∀ (i : Nat) (a : AV), cs[i]? = some a → ∃ v, c[o + i]? = some v ∧ VRel μ I a v)
    (q : VRels μ I vs xs) (hl : off + vs.length ≤ cs.length) (hc : c'.toList = c.toList.take (o + off) ++ xs ++ c.toList.drop (o + off + xs.length)) :
    c'.size = N ∧ o + (splice cs off vs).length ≤ N ∧ ∀ (i : Nat) (a : AV), (splice cs off vs)[i]? = some a → ∃ v, c'[o + i]? = some v ∧ VRel μ I a v := by
  have lq := q.length
  have hs : c'.size = N := by
    rw [← Array.length_toList, hc]; simp; omega
  refine ⟨hs, by rw [splice_length hl]; exact h2, fun i a e => ?_⟩
  rw [← Array.getElem?_toList, hc]
  unfold splice at e
  rw [List.append_assoc] at e ⊢
  have ht : (cs.take off).length = off := by simp; omega
  have ht' : (c.toList.take (o + off)).length = o + off := by simp; omega
  by_cases c1 : i < off
  · rw [List.getElem?_append_left (by omega)] at e
    rw [List.getElem?_append_left (by omega)]
    rw [List.getElem?_take, if_pos c1] at e
    rw [List.getElem?_take, if_pos (by omega)]
    simpa using h3 i a e
  · rw [List.getElem?_append_right (by omega), ht] at e
    rw [List.getElem?_append_right (by omega), ht']
    have : o + i - (o + off) = i - off := by omega
    rw [this]
    by_cases c2 : i - off < vs.length
    · rw [List.getElem?_append_left c2] at e
      rw [List.getElem?_append_left (by omega)]
      exact q.get e
    · rw [List.getElem?_append_right (by omega)] at e
      rw [List.getElem?_append_right (by omega)]
      rw [List.getElem?_drop] at e ⊢
      have e2 := h3 _ a e
      rw [← Array.getElem?_toList] at e2
      have : o + off + xs.length + (i - off - xs.length) = o + (off + vs.length + (i - off - vs.length)) := by omega
      rw [this]
      exact e2

theorem astore_run (W : WRel μ I w0 h w) {t : TypeId} {a v : AV} {u x : Value} {h' : Heap} (e : astore P h t a v = some h') (r : VRel μ I a u) (q : VRel μ I v x) :
    ∃ w', (Instr.storeAt t u x).run P w = .ok () w' ∧ WRel μ I w0 h' w' ∧ h'.next = h.next ∧ ∀ b, μ b = none → h'.get b = h.get b := by
  unfold astore at e
  split at e
  · rename_i b off
    split at e
    · rename_i cs hb
      cases hs : sizeT P t with
      | none => rw [hs] at e; cases e
      | some s =>
        rw [hs] at e
        simp only at e
        obtain ⟨hc, e⟩ := cond_some e
        simp only [Bool.and_eq_true] at hc
        obtain ⟨⟨c1, c2⟩, c3⟩ := hc
        have c1 := beq_tt c1
        have c2 := Nat.le_of_ble_eq_true c2
        simp at e
        subst e
        cases r with
        | ptr hm =>
          rename_i B o N
          obtain ⟨obj, ho, hr⟩ := W.objs _ _ _ _ _ hb hm
          cases hr with
          | cells g1 g2 g3 =>
            rename_i c el
            have hnb : v ≠ .bad := by intro z; subst z; simp [AV.cells, AV.one] at c3
            have qc := q.cells hnb
            have lq := qc.length
            obtain ⟨c', k1, k2⟩ := storeCells_run (P := P) (B := B) (o := o + off) x.cells.toList 0 c w ho (by omega) (qc.oneCell c3)
            have hsz : x.cells.size = s := by rw [← Array.length_toList, ← lq, c1]
            refine ⟨w.putBlock B (.cells c' el (0, 0)), ?_, W.update hb hm ?_, rfl, ?_⟩
            · simp [Instr.storeAt, Instr.sureAddr, storeVar, run_sizeOf hs, hsz, k1]
            · obtain ⟨z1, z2, z3⟩ := cells_splice g1 g2 g3 qc (by omega) k2
              exact .cells z1 z2 z3
            · intro d hd
              rw [Heap.get_set, if_neg (fun q => by subst q; rw [hm] at hd; cases hd)]
    · cases e
  · cases e

theorem repl_length (z : List AV) (n : Nat) : (repl z n).length = n * z.length := by
  induction n with
  | zero => simp [repl]
  | succ n ih => simp [repl, ih, Nat.succ_mul]; omega

theorem repl_get (z : List AV) : ∀ (n i : Nat), i < n * z.length → (repl z n)[i]? = z[i % z.length]? := by
  intro n
  induction n with
  | zero => intro i h; omega
  | succ n ih =>
    intro i hi
    simp only [repl]
    rw [Nat.succ_mul] at hi
    by_cases c : i < z.length
    · rw [List.getElem?_append_left c, Nat.mod_eq_of_lt c]
    · rw [List.getElem?_append_right (by omega), ih _ (by omega)]
      congr 1
      conv => rhs; rw [show i = i - z.length + z.length from by omega, Nat.add_mod_right]

theorem zero_rels {z : AV} {v : Value} (r : VRel μ I z v) (hb : z.cells.all AV.one = true) : VRels μ I z.cells v.cells.toList := by
  refine r.cells ?_
  intro q; subst q; simp [AV.cells, AV.one] at hb

theorem repl_rels {z : List AV} {v : Array Value} (r : VRels μ I z v.toList) (n : Nat) {us : Array Value} (hn : us.size = n * v.size) (hu : ∀ i, i < n * v.size → us[i]? = v[i % v.size]?) :
    VRels μ I (repl z n) us.toList := by
  have lr := r.length
  simp only [Array.length_toList] at lr
  refine VRels.of_get ?_ fun i a x e f => ?_
  · have : us.toList.length = us.size := by simp
    rw [repl_length, this, hn, lr]
  · have hi : i < us.toList.length := (List.getElem?_eq_some_iff.1 f).1
    rw [Array.length_toList, hn] at hi
    rw [repl_get _ _ _ (by rw [lr]; exact hi), lr] at e
    rw [Array.getElem?_toList, hu i hi] at f
    obtain ⟨y, hy, hr⟩ := r.get e
    rw [Array.getElem?_toList, f] at hy
    cases hy
    exact hr

theorem map_range_get (v : Array Value) (m : Nat) (hv : 0 < v.size) : ((Array.range m).map (v[· % v.size]!)).size = m ∧ ∀ i, i < m → ((Array.range m).map (v[· % v.size]!))[i]? = v[i % v.size]? := by
  refine ⟨by simp, fun i hi => ?_⟩
  have : i % v.size < v.size := Nat.mod_lt _ hv
  simp [hi, this]

theorem afill_length {place : Nat → Option (Nat × Nat)} : ∀ {parts : List (Nat × AV)} {cells out : List AV}, afill place cells parts = some out → out.length = cells.length
  | [], cells, out, e => by simp [afill] at e; subst e; rfl
  | (i, a) :: rest, cells, out, e => by
    unfold afill at e
    split at e
    · cases e
    · split at e
      · cases e
      · obtain ⟨hc, e⟩ := cond_some e
        simp only [Bool.and_eq_true] at hc
        rw [afill_length e]
        exact splice_length (Nat.le_of_ble_eq_true hc.2)

theorem wrap_nat {n : Nat} (h : n ≤ 4611686018427387904) : IntKind.i64.wrap (n : Int) = n := IntWalk.i64_in _ (by omega)

/-- The block that an operation makes, whenever the model comes to make it. -/
theorem afresh_run {b : Nat} {tm : Tr AV} {ρ : Operand → Value} {o : Oper} {ob : AObj} {v : AV} (e : afresh P b tm o = some (ob, v))
    (hop : ∀ x ∈ o.op.operands.toList, VRel μ I (evalOp tm x) (ρ x)) (w : World) :
    ∃ q u N, (execOp ρ o).run P w = .ok (.value u) (w.pushBlock q) ∧ ∀ μ', Ext μ μ' I I → μ' b = some (w.heap.size, 0, N) → ORel μ' I ob 0 N q ∧ VRel μ' I v u := by
  obtain ⟨dst, op, type, pos, after, guard⟩ := o
  unfold afresh at e
  unfold execOp
  have cellsOf : ∀ {μ' : Mu} {cs : List AV} {us : Array Value} {el : TypeId}, VRels μ' I cs us.toList → ORel μ' I (.cells cs) 0 us.size (.cells us el (0, 0)) := by
    intro μ' cs us el hr
    have lr := hr.length
    simp only [Array.length_toList] at lr
    exact .cells rfl (by omega) fun i a ea => by
      obtain ⟨y, hy, hr⟩ := hr.get ea
      exact ⟨y, by simpa using hy, hr⟩
  cases op <;> simp only at e hop ⊢ <;> try cases e
  case alloc t =>
    cases hz : zeroA P t with
    | none => rw [hz] at e; cases e
    | some z =>
      rw [hz] at e
      obtain ⟨hc, e⟩ := cond_some e
      simp at e
      obtain ⟨rfl, rfl⟩ := e
      obtain ⟨i, zv, hi, hzv, rfl, hrun⟩ := run_zeroValue (P := P) hz w
      refine ⟨.cells zv.cells t (0, 0), .pointer (some ⟨w.heap.size, 0, none⟩), zv.cells.size, ?_, fun μ' hx hm => ⟨?_, ?_⟩⟩
      · simp [Instr.alloc, hrun, newVar, newRow, World.pushBlock]
      · exact cellsOf (zero_rels (ofV_rel zv) hc)
      · have := VRel.ptr (I := I) (off := 0) hm; simpa using this
  case box t x =>
    have hxx := hop x (by simp [Op.operands])
    split at e
    · cases e
    · rename_i hnb
      obtain ⟨hc, e⟩ := cond_some e
      simp at e
      obtain ⟨rfl, rfl⟩ := e
      refine ⟨.cells (ρ x).cells t (0, 0), .pointer (some ⟨w.heap.size, 0, none⟩), (ρ x).cells.size, ?_, fun μ' hx hm => ⟨?_, ?_⟩⟩
      · simp [Instr.box, newVar, newRow, World.pushBlock]
      · exact cellsOf (zero_rels (hxx.mono hx) hc)
      · have := VRel.ptr (I := I) (off := 0) hm; simpa using this
  case makeMap t r =>
    have fin : ∀ s : Sem Value, s.run P w = .ok (.map (some w.heap.size)) (w.pushBlock (.map #[] 0)) → ∃ q u N, (do pure (.value (← s)) : Sem Next).run P w = .ok (.value u) (w.pushBlock q) ∧ ∀ μ', Ext μ μ' I I → μ' b = some (w.heap.size, 0, N) → ORel μ' I (.map [] 0) 0 N q ∧ VRel μ' I (.map b) u :=
      fun s hs => ⟨.map #[] 0, .map (some w.heap.size), 0, by simp [hs], fun μ' hx hm => ⟨.map .nil, .map hm⟩⟩
    cases r with
    | none =>
      simp at e
      obtain ⟨rfl, rfl⟩ := e
      exact fin _ (by simp [Instr.makeMap, newObj, Sem.run]; rfl)
    | some x =>
      have hxx := hop x (by simp [Op.operands])
      simp only at e
      split at e
      case h_2 => cases e
      rename_i kt et k n hu hx
      simp at e
      obtain ⟨rfl, rfl⟩ := e
      rw [hx] at hxx
      refine fin _ ?_
      simp only [Option.map_some]
      generalize ρ x = rx at hxx ⊢
      cases hxx
      simp [Instr.makeMap, run_underlying hu, asInt, asIntOf, newObj, Sem.run]
      rfl
  case buildSlice t len parts =>
    split at e
    case h_2 => cases e
    case h_1 el hu =>
    split at e
    case h_2 => cases e
    case h_1 s z hs hz =>
    obtain ⟨hc, e⟩ := cond_some e
    simp only [Bool.and_eq_true] at hc
    obtain ⟨⟨⟨c1, c2⟩, c3⟩, c4⟩ := hc
    have c1 := beq_tt c1
    have c2 := blt_lt c2
    have c3 := Nat.le_of_ble_eq_true c3
    split at e
    case h_2 => cases e
    case h_1 cs hf =>
    obtain ⟨hone, e⟩ := cond_some e
    simp at e
    obtain ⟨rfl, rfl⟩ := e
    obtain ⟨i, zv, hi, hzv, rfl, hrun⟩ := run_zeroValue (P := P) hz w
    have hzr : VRels μ I (ofV zv).cells zv.cells.toList := zero_rels (ofV_rel zv) c4
    have lz := hzr.length
    simp only [Array.length_toList] at lz
    have hzs : zv.cells.size = s := by omega
    have q : PRels μ I (parts.toList.map fun p => (p.1, evalOp tm p.2)) (parts.toList.map fun p => (p.1, ρ p.2)) :=
      PRels.map fun p hp => hop p.2 (by simp [Op.operands]; exact ⟨p.1, by simpa using hp⟩)
    have hr0 := map_range_get zv.cells (len * s) (by omega)
    have hbase : VRels μ I (repl (ofV zv).cells len) ((Array.range (len * s)).map (zv.cells[· % zv.cells.size]!)).toList :=
      repl_rels hzr len (by rw [hr0.1, hzs]) (fun i hi => hr0.2 i (by rw [hzs] at hi; exact hi))
    obtain ⟨out, k1, k2⟩ := afill_run hf q hbase
    refine ⟨.cells out el (0, 0), .slice (some ⟨w.heap.size, 0, none⟩) len len, out.size, ?_, fun μ' hx hm => ⟨cellsOf (k2.mono hx), ?_⟩⟩
    · have hbig : ¬ 16777216 < len * s := by omega
      by_cases h0 : len * s = 0
      · have e0 : (Array.range (len * s)).map (zv.cells[· % zv.cells.size]!) = #[] := by rw [h0]; simp
        rw [e0] at k1
        have hl0 : len = 0 := by rcases Nat.mul_eq_zero.1 h0 with h | h <;> omega
        subst hl0
        have hr : Array.range 0 = #[] := rfl
        simp [Instr.buildSlice, run_underlying hu, run_sizeOf hs, k1, newRow, World.pushBlock, hr]
      · simp [Instr.buildSlice, run_underlying hu, run_sizeOf hs, h0, hrun, k1, newRow, World.pushBlock, hbig]
    · have lo : out.size = len * s := by
        have h1 := k2.length
        have h2 := afill_length hf
        rw [repl_length, c1] at h2
        simp only [Array.length_toList] at h1
        omega
      have := VRel.slice (I := I) (off := 0) (len := len) (cap := len) (sz := s) hm (Nat.le_refl _) (by omega)
      simpa using this
  case makeSlice t l c =>
    split at e
    case h_2 => cases e
    case h_1 el hu =>
    split at e
    case h_2 => cases e
    case h_1 i z k1 m k2 n hi hz hl hcp =>
    obtain ⟨hc, e⟩ := cond_some e
    simp at e
    obtain ⟨rfl, rfl⟩ := e
    simp only [Bool.and_eq_true] at hc
    obtain ⟨⟨⟨⟨⟨c1, c2⟩, c3⟩, c4⟩, c5⟩, c6⟩ := hc
    have c1 := beq_tt c1
    have c2 := blt_lt c2
    have c3 := beq_tt c3
    have c4 := Nat.le_of_ble_eq_true c4
    have c5 := Nat.le_of_ble_eq_true c5
    subst c3
    have r1 := hop l (by simp [Op.operands])
    have r2 := hop c (by simp [Op.operands])
    rw [hl] at r1
    rw [hcp] at r2
    obtain ⟨i', zv, hi', hzv, rfl, hrun⟩ := run_zeroValue (P := P) hz w
    rw [hi] at hi'
    cases hi'
    have hzr : VRels μ I (ofV zv).cells zv.cells.toList := zero_rels (ofV_rel zv) c6
    have lz := hzr.length
    simp only [Array.length_toList] at lz
    have hzs : zv.cells.size = i.size := by omega
    have hs : sizeT P el = some i.size := by simp [sizeT, hi]
    have hr0 := map_range_get zv.cells (m * i.size) (by omega)
    have hbase : VRels μ I (repl (ofV zv).cells m) ((Array.range (m * i.size)).map (zv.cells[· % zv.cells.size]!)).toList :=
      repl_rels hzr m (by rw [hr0.1, hzs]) (fun j hj => hr0.2 j (by rw [hzs] at hj; exact hj))
    refine ⟨.cells ((Array.range (m * i.size)).map (zv.cells[· % zv.cells.size]!)) el (0, 0), .slice (some ⟨w.heap.size, 0, none⟩) m m, m * i.size, ?_, fun μ' hx hm => ⟨?_, ?_⟩⟩
    · have q1 : asInt (ρ l) = pure (m : Int) := by
        generalize ρ l = x at r1; cases r1; rfl
      have q2 : asInt (ρ c) = pure (m : Int) := by
        generalize ρ c = x at r2; cases r2; rfl
      have hw := wrap_nat c5
      have hb1 : ¬ (281474976710656 < (i.bytes : Int) * (m : Int)) := by
        have : ((i.bytes : Int) * (m : Int)) = ((m * i.bytes : Nat) : Int) := by push_cast; rw [Int.mul_comm]
        rw [this]; omega
      have hneg : ¬ ((m : Int) < 0) := by omega
      simp only [Instr.makeSlice, Sem.run_bind, run_underlying hu, Result.andThen_ok, q1, q2, Sem.run_pure, run_typeInfo hi, hw]
      by_cases h0 : m * i.size = 0
      · have e0 : (Array.range (m * i.size)).map (zv.cells[· % zv.cells.size]!) = #[] := by rw [h0]; simp
        have hl0 : m = 0 := by rcases Nat.mul_eq_zero.1 h0 with h | h <;> omega
        subst hl0
        have hr : Array.range 0 = #[] := rfl
        simp [run_sizeOf hs, newRow, World.pushBlock, hr]
      · simp [hb1, hneg, run_sizeOf hs, h0, hrun, newRow, World.pushBlock]
    · have := cellsOf (el := el) (hbase.mono hx)
      rw [hr0.1] at this
      exact this
    · have := VRel.slice (I := I) (off := 0) (len := m) (cap := m) (sz := i.size) hm (Nat.le_refl _) (by omega)
      simpa using this

/-! ### append, copy -/
theorem cellsAt_take {cs l : List AV} {B o n : Nat} (c : CellsAt μ I w cs B o) (e : takeN n cs = some l) (m : Nat) (hm : m ≤ n) :
    ∃ vs : List Value, (loadCells ⟨B, o, none⟩ m).run P w = .ok vs.toArray w ∧ VRels μ I (l.take m) vs := by
  have c' := c.take e
  have hl := (takeN_spec e).2
  refine loadCells_run (cs := l.take m) (fun i a ei => ?_) (by simp; omega)
  rw [List.getElem?_take] at ei
  split at ei
  · exact c' i a ei
  · cases ei

theorem elems_run (W : WRel μ I w0 h w) {sz n : Nat} {x : AV} {l : List AV} {u : Value} (e : elems h sz x = some (n, l)) (r : VRel μ I x u) :
    l.length = n * sz ∧ (Builtin.lenOf u).run P w = .ok n w ∧ (∃ a c, u = .slice a n c) ∧
      ∀ m, m ≤ n → ∃ vs : List Value, (Builtin.firstCells sz m u).run P w = .ok vs.toArray w ∧ VRels μ I (l.take (m * sz)) vs := by
  unfold elems at e
  split at e
  · cases e
    cases r
    refine ⟨by simp, by simp [Builtin.lenOf], ⟨_, _, rfl⟩, fun m hm => ⟨[], by simp [Builtin.firstCells], by simp; exact .nil⟩⟩
  · rename_i b off len s
    split at e
    · rename_i cs hb
      obtain ⟨hs, e⟩ := cond_some e
      have hs := beq_tt hs
      subst hs
      cases ht : takeN (len * s) (cs.drop off) with
      | none => rw [ht] at e; simp at e
      | some q =>
        rw [ht] at e
        simp at e
        obtain ⟨rfl, rfl⟩ := e
        have hl := (takeN_spec ht).2
        cases r with
        | slice hm h1 h2 =>
          rename_i cap B o N
          refine ⟨hl, by simp [Builtin.lenOf], ⟨_, _, rfl⟩, fun m hm' => ?_⟩
          obtain ⟨vs, k1, k2⟩ := cellsAt_take (P := P) ((cellsAt_block W hb hm).drop off) ht (m * s) (Nat.mul_le_mul_right _ hm')
          exact ⟨vs, by simp [Builtin.firstCells, k1], k2⟩
        | slice0 hm =>
          refine ⟨hl, by simp [Builtin.lenOf], ⟨_, _, rfl⟩, fun m hm' => ?_⟩
          have : m = 0 := by omega
          subst this
          exact ⟨[], by simp [Builtin.firstCells, loadCells, loadCellsFrom], by simp; exact .nil⟩
    · cases e
  · rename_i cs len s
    obtain ⟨hs, e⟩ := cond_some e
    have hs := beq_tt hs
    subst hs
    cases ht : takeN (len * s) cs with
    | none => rw [ht] at e; simp at e
    | some q =>
      rw [ht] at e
      simp at e
      obtain ⟨rfl, rfl⟩ := e
      have hl := (takeN_spec ht).2
      cases r with
      | vslice hc h1 =>
        rename_i cap B o
        refine ⟨hl, by simp [Builtin.lenOf], ⟨_, _, rfl⟩, fun m hm' => ?_⟩
        obtain ⟨vs, k1, k2⟩ := cellsAt_take (P := P) (cellsAt_imm W hc) ht (m * s) (Nat.mul_le_mul_right _ hm')
        exact ⟨vs, by simp [Builtin.firstCells, k1], k2⟩
      | vslice0 =>
        refine ⟨hl, by simp [Builtin.lenOf], ⟨_, _, rfl⟩, fun m hm' => ?_⟩
        have : m = 0 := by omega
        subst this
        exact ⟨[], by simp [Builtin.firstCells, loadCells, loadCellsFrom], by simp; exact .nil⟩
  · cases e

theorem growBy_le (newLen : Nat) : ∀ (k c : Nat), c ≤ 2 * newLen + 1024 → Builtin.growBy newLen k c ≤ 2 * newLen + 1024 := by
  intro k
  induction k with
  | zero => intro c hc; exact hc
  | succ k ih =>
    intro c hc
    simp only [Builtin.growBy]
    split
    · exact hc
    · exact ih _ (by omega)

theorem nextslicecap_le (newLen old : Nat) (h : old < newLen) : Builtin.nextslicecap newLen old ≤ 2 * newLen + 1024 := by
  unfold Builtin.nextslicecap
  split
  · omega
  · split
    · omega
    · exact growBy_le _ _ _ (by omega)

theorem zeroCells_size (z : Array Value) (n : Nat) : (Builtin.zeroCells z n).size = n * z.size := by simp [Builtin.zeroCells]

end
end Go.Abs
namespace Go.Abs
set_option linter.unusedSimpArgs false
set_option linter.unusedVariables false
open Go.RowKit (Below)
section
variable {P : Program} {μ : Mu} {I : Imm} {w0 w : World} {h : Heap}

/-- What an operation does to the heaps, when it has come to its end. -/
structure Goes (P : Program) (μ μ' : Mu) (I : Imm) (w0 : World) (h h' : Heap) (w' : World) : Prop where
  ext : Ext μ μ' I I
  rel : WRel μ' I w0 h' w'
  next : h.next ≤ h'.next
  keep : ∀ b, b < h.next → μ b = none → μ' b = none ∧ h'.get b = h.get b

theorem Goes.refl (W : WRel μ I w0 h w) : Goes P μ μ I w0 h h w := ⟨.refl _ _, W, Nat.le_refl _, fun _ _ e => ⟨e, rfl⟩⟩

theorem Goes.trans {μ1 μ2 μ3 : Mu} {h1 h2 h3 : Heap} {w2 w3 : World} (a : Goes P μ1 μ2 I w0 h1 h2 w2) (b : Goes P μ2 μ3 I w0 h2 h3 w3) : Goes P μ1 μ3 I w0 h1 h3 w3 :=
  ⟨a.ext.trans b.ext, b.rel, Nat.le_trans a.next b.next, fun c hc e => by
    obtain ⟨p, q⟩ := a.keep c hc e
    obtain ⟨p', q'⟩ := b.keep c (Nat.lt_of_lt_of_le hc a.next) p
    exact ⟨p', q'.trans q⟩⟩

theorem goes_push (W : WRel μ I w0 h w) {ob : AObj} {o : Obj} {N : Nat} (hr : ORel (upd μ h.next (w.heap.size, 0, N)) I ob 0 N o) :
    Goes P μ (upd μ h.next (w.heap.size, 0, N)) I w0 h (h.new ob) (w.pushBlock o) := by
  have hn := W.next_none
  refine ⟨.upd hn, (W.new ob).push (by rw [Heap.get_new, if_pos rfl]) hn hr, Nat.le_succ _, fun b hb e => ?_⟩
  have : b ≠ h.next := by omega
  exact ⟨by rw [upd_ne _ _ this]; exact e, by rw [Heap.get_new, if_neg this]⟩

/-- The new row that an append lays. -/
theorem newRow_cells {el : TypeId} {old new : List AV} {us vs rest : Array Value} {N : Nat} (r1 : VRels μ I old us.toList) (r2 : VRels μ I new vs.toList) (hN : (us ++ vs ++ rest).size = N) :
    ORel μ I (.cells (old ++ new)) 0 N (.cells (us ++ vs ++ rest) el (0, 0)) := by
  have l1 := r1.length
  have l2 := r2.length
  simp only [Array.length_toList] at l1 l2
  simp only [Array.size_append] at hN
  refine .cells (by simp only [Array.size_append]; exact hN) (by simp; omega) fun i a e => ?_
  obtain ⟨v, hv, hr⟩ := (r1.append r2).get e
  refine ⟨v, ?_, hr⟩
  have hlt := (List.getElem?_eq_some_iff.1 hv).1
  rw [Nat.zero_add, ← Array.getElem?_toList]
  simp only [Array.toList_append]
  rw [List.getElem?_append_left (by simpa using hlt)]
  exact hv

theorem elems_slice {h : Heap} {sz0 b off len sz n : Nat} {l : List AV} (e : elems h sz0 (.slice b off len sz) = some (n, l)) :
    n = len ∧ sz0 = sz ∧ ∃ cs, h.get b = some (.cells cs) ∧ takeN (len * sz) (cs.drop off) = some l := by
  simp only [elems] at e
  split at e
  · rename_i cs hb
    obtain ⟨h1, e⟩ := cond_some e
    cases ht : takeN (len * sz) (cs.drop off) with
    | none => rw [ht] at e; simp at e
    | some q => rw [ht] at e; simp at e; exact ⟨e.1.symm, (beq_tt h1).symm, cs, hb, by rw [ht, e.2]⟩
  · cases e

/-- append, what is appended being known. -/
theorem append_core (W : WRel μ I w0 h w) {el : TypeId} {i : TypeInfo} {zv : Value} (hi : P.info? el = some i) (hz : (∀ w, (zeroValue el).run P w = .ok zv w)) (hzs : zv.cells.size = i.size)
    {s v : AV} {s' : Value} {n : Nat} {new : List AV} {h' : Heap} (zeros : Bool) (appended : Sem (Array Value)) (x : Value)
    (hnew : ∀ k, ∃ vs : List Value, appended.run P { w with drawn := k } = .ok vs.toArray { w with drawn := k } ∧ VRels μ I new vs) (hnl : new.length = n * i.size)
    (e : appendTo h i.size i.bytes s n new = some (v, h')) (r : VRel μ I s s') :
    ∃ (base : Option Addr) (sLen sCap : Nat), s' = .slice base sLen sCap ∧ ∃ μ' u w',
      (do
        let need := sLen + n
        if need ≤ sCap then
          let new ← appended
          if let some a := base then storeCells (a.add (sLen * i.size)) new.toList
          pure (.slice base need sCap)
        else
          if (need : Int) > IntKind.i64.max ∧ (zeros = true ∨ (← typeInfo el).bytes = 0) then runtimePanic (.error "growslice: len out of range")
          if Builtin.nextslicecap need sCap * (← typeInfo el).bytes > 2 ^ 48 then (if zeros then runtimePanic (.error "growslice: len out of range") else do
            if !(← Builtin.mayShare i.size sLen n base x) then mark .noRoom
            unsupported (.resourceLimit "append: a slice or a string whose bytes no memory bears"))
          let newCap ← choose (.appendCap need sCap el)
          askRoom (newCap * (← typeInfo el).bytes)
          let old ← Builtin.firstCells i.size sLen s'
          let new ← appended
          let rest := Builtin.zeroCells (← zeroValue el).cells (newCap - need)
          pure (.slice (some (← newRow el (old ++ new ++ rest))) need newCap) : Sem Value).run P w = .ok u w' ∧ Goes P μ μ' I w0 h h' w' ∧ VRel μ' I v u := by
  have grow : ∀ (base : Option Addr) (sLen sCap : Nat) (hh : Heap) (old : List AV), sCap < sLen + n → (2 * (sLen + n) + 1024) * i.bytes ≤ 140737488355328 → sLen + n ≤ 2305843009213693952 →
      WRel μ I w0 hh w → (∃ us : List Value, (Builtin.firstCells i.size sLen s').run P { w with drawn := w.drawn + 1 } = .ok us.toArray { w with drawn := w.drawn + 1 } ∧ VRels μ I old us) → old.length = sLen * i.size → 
      ∃ μ' u w', (do
          if (sLen + n : Int) > IntKind.i64.max ∧ (zeros = true ∨ (← typeInfo el).bytes = 0) then runtimePanic (.error "growslice: len out of range")
          if Builtin.nextslicecap (sLen + n) sCap * (← typeInfo el).bytes > 2 ^ 48 then (if zeros then runtimePanic (.error "growslice: len out of range") else do
            if !(← Builtin.mayShare i.size sLen n base x) then mark .noRoom
            unsupported (.resourceLimit "append: a slice or a string whose bytes no memory bears"))
          let newCap ← choose (.appendCap (sLen + n) sCap el)
          askRoom (newCap * (← typeInfo el).bytes)
          let old ← Builtin.firstCells i.size sLen s'
          let new ← appended
          let rest := Builtin.zeroCells (← zeroValue el).cells (newCap - (sLen + n))
          pure (.slice (some (← newRow el (old ++ new ++ rest))) (sLen + n) newCap) : Sem Value).run P w = .ok u w' ∧
        Goes P μ μ' I w0 hh (hh.new (.cells (old ++ new))) w' ∧ VRel μ' I (.slice hh.next 0 (sLen + n) i.size) u := by
    intro base sLen sCap hh old hc hb hl W ⟨us, hus1, hus2⟩ hol
    obtain ⟨vs, hvs⟩ := hnew (w.drawn + 1)
    have W1 := W.drew (w.drawn + 1)
    have hcap : ¬ (281474976710656 < Builtin.nextslicecap (sLen + n) sCap * i.bytes) := by
      have h1 := nextslicecap_le (sLen + n) sCap hc
      have h2 := Nat.mul_le_mul_right i.bytes h1
      omega
    have hmax : ¬ (IntKind.i64.max < (sLen : Int) + (n : Int)) := by
      have : IntKind.i64.max = 9223372036854775807 := by decide
      omega
    let newCap := (sLen + n) + w.tape w.drawn (.appendCap (sLen + n) sCap el) % (2 ^ 63 - (sLen + n))
    have hge : sLen + n ≤ newCap := Nat.le_add_right _ _
    let row := us.toArray ++ vs.toArray ++ Builtin.zeroCells zv.cells (newCap - (sLen + n))
    have l1 := hus2.length
    have l2 := hvs.2.length
    have hrow : row.size = newCap * i.size := by
      simp only [row, Array.size_append, List.size_toArray, zeroCells_size, hzs]
      rw [← l1, ← l2, hol, hnl, ← Nat.add_mul, ← Nat.add_mul]
      congr 1
      omega
    refine ⟨upd μ hh.next (w.heap.size, 0, newCap * i.size), .slice (some ⟨w.heap.size, 0, none⟩) (sLen + n) newCap, ({ w with drawn := w.drawn + 1 } : World).pushBlock (.cells row el (0, 0)), ?_, ?_, ?_⟩
    · have hcap' : ¬ (Builtin.nextslicecap (sLen + n) sCap * i.bytes > 2 ^ 48) := by simpa using hcap
      have hmax' : ¬ ((sLen : Int) + (n : Int) > IntKind.i64.max) := hmax
      simp only [hmax', false_and, if_false]
      simp only [Sem.run_bind, run_typeInfo hi, Result.andThen_ok, hcap', if_false]
      rw [run_choose]
      simp only [Question.forced, Bool.false_eq_true, if_false, Question.cut, Result.andThen_ok, run_askRoom, hus1, hvs.1, hz, newRow, Sem.run_bind, run_newObj, Sem.run_pure]
      rfl
    · have := goes_push (P := P) W1 (ob := .cells (old ++ new)) (o := .cells row el (0, 0)) (N := newCap * i.size) ?_
      · exact this
      · have hx : Ext μ (upd μ hh.next (w.heap.size, 0, newCap * i.size)) I I := .upd W.next_none
        exact newRow_cells (by simpa using hus2.mono hx) (by simpa using hvs.2.mono hx) hrow
    · have := VRel.slice (I := I) (off := 0) (len := sLen + n) (cap := newCap) (sz := i.size) (upd_self μ hh.next (w.heap.size, 0, newCap * i.size)) hge (by omega)
      simpa using this
  unfold appendTo at e
  split at e
  · cases r
    refine ⟨none, 0, 0, rfl, ?_⟩
    cases n with
    | zero =>
      simp at e
      obtain ⟨rfl, rfl⟩ := e
      obtain ⟨vs, hvs⟩ := hnew w.drawn
      exact ⟨μ, .slice none 0 0, w, by simp [hvs.1], .refl W, .nils⟩
    | succ m =>
      simp only at e
      obtain ⟨hc, e⟩ := cond_some e
      simp at e
      obtain ⟨rfl, rfl⟩ := e
      simp only [Bool.and_eq_true] at hc
      obtain ⟨⟨c1, c2⟩, c3⟩ := hc
      have c1 := Nat.le_of_ble_eq_true c1
      have c2 := Nat.le_of_ble_eq_true c2
      obtain ⟨μ', u, w', g1, g2, g3⟩ := grow none 0 0 h [] (by omega) (by simpa using c1) (by omega) W ⟨[], by simp [Builtin.firstCells], .nil⟩ (by simp)
      refine ⟨μ', u, w', ?_, by simpa using g2, by simpa using g3⟩
      have : ¬ (0 + (m + 1) ≤ 0) := by omega
      simp only [this, if_false]
      exact_mod_cast g1
  · rename_i b off len sz
    cases he : elems h i.size (.slice b off len sz) with
    | none => rw [he] at e; cases e
    | some lo =>
      obtain ⟨ln, old⟩ := lo
      rw [he] at e
      simp only at e
      obtain ⟨k1, k2, ⟨ka, kc, k3⟩, k4⟩ := elems_run (P := P) W he r
      obtain ⟨rfl, hsz', cs, hb, ht⟩ := elems_slice he
      subst k3
      refine ⟨ka, ln, kc, rfl, ?_⟩
      cases n with
      | zero =>
        simp at e
        obtain ⟨rfl, rfl⟩ := e
        have hle : ln ≤ kc := by cases r <;> omega
        obtain ⟨vs, hvs⟩ := hnew w.drawn
        have hvs0 : vs = [] := by
          have := hvs.2.length
          simp at hnl
          rw [hnl] at this
          exact List.eq_nil_of_length_eq_zero this.symm
        subst hvs0
        refine ⟨μ, .slice ka ln kc, w, ?_, .refl W, r⟩
        have hle' : ln + 0 ≤ kc := hle
        cases ka with
        | none => simp [hvs.1, hle]
        | some a => simp [hvs.1, hle, storeCells]
      | succ m =>
        simp only at e
        obtain ⟨hc, e⟩ := cond_some e
        simp at e
        obtain ⟨rfl, rfl⟩ := e
        simp only [Bool.and_eq_true] at hc
        obtain ⟨⟨c1, c2⟩, c3⟩ := hc
        have c1 := Nat.le_of_ble_eq_true c1
        have c2 := Nat.le_of_ble_eq_true c2
        have hmu : ∃ x, μ b = some x := by cases r <;> exact ⟨_, by assumption⟩
        have hkill : ∀ {μ' : Mu} {w' : World}, Goes P μ μ' I w0 (h.kill b) ((h.kill b).new (.cells (old ++ new))) w' → Goes P μ μ' I w0 h ((h.kill b).new (.cells (old ++ new))) w' := by
          intro μ' w' g
          refine ⟨g.ext, g.rel, g.next, fun d hd hn => ?_⟩
          obtain ⟨p, q⟩ := g.keep d hd hn
          refine ⟨p, q.trans ?_⟩
          rw [Heap.get_kill, if_neg ?_]
          intro z; subst z; obtain ⟨x, hx⟩ := hmu; rw [hx] at hn; cases hn
        obtain ⟨us, hus⟩ := k4 ln (Nat.le_refl _)
        rw [List.take_of_length_le (by omega)] at hus
        by_cases hroom : ln + (m + 1) ≤ kc
        · -- in place
          cases r with
          | slice0 => omega
          | slice hm h1 h2 =>
            rename_i B o N
            obtain ⟨hq1, hq2⟩ := takeN_spec ht
            obtain ⟨obj, ho, hor⟩ := W.objs _ _ _ _ _ hb hm
            cases hor with
            | cells g1 g2 g3 =>
              rename_i c elc
              obtain ⟨vs, hvs1, hvs2⟩ := hnew w.drawn
              have lv := hvs2.length
              have hmul : (ln + (m + 1)) * sz ≤ kc * sz := Nat.mul_le_mul_right _ hroom
              rw [Nat.add_mul] at hmul
              rw [hsz'] at hnl
              obtain ⟨c', s1, s2⟩ := storeCells_run (P := P) (B := B) (o := o + off + ln * sz) vs 0 c w ho (by omega) (hvs2.oneCell c3)
              have Wk := (W.kill b).new (.cells (old ++ new))
              have hnn : μ h.next = none := W.next_none
              have hbn : b < h.next := W.live _ _ hb
              have hx : Ext μ (upd μ h.next (B, o + off, N)) I I := .upd hnn
              have hc's : c'.size = N := by
                rw [← Array.length_toList, s2]; simp; omega
              have hORel : ORel (upd μ h.next (B, o + off, N)) I (.cells (old ++ new)) (o + off) N (.cells c' elc (0, 0)) := by
                refine .cells hc's (by simp; omega) fun j a ej => ?_
                rw [← Array.getElem?_toList, s2]
                simp only [Nat.add_zero]
                have ht' : (c.toList.take (o + off + ln * sz)).length = o + off + ln * sz := by simp; omega
                by_cases cj : j < ln * sz
                · rw [List.getElem?_append_left (by omega)] at ej
                  rw [List.append_assoc, List.getElem?_append_left (by omega), List.getElem?_take, if_pos (by omega)]
                  rw [hq1, List.getElem?_take, if_pos cj, List.getElem?_drop] at ej
                  obtain ⟨y, y1, y2⟩ := g3 _ _ ej
                  exact ⟨y, by rw [show o + off + j = o + (off + j) from by omega]; simpa using y1, y2.mono hx⟩
                · rw [List.getElem?_append_right (by omega)] at ej
                  rw [List.append_assoc, List.getElem?_append_right (by omega), ht']
                  rw [show o + off + j - (o + off + ln * sz) = j - old.length from by omega]
                  obtain ⟨y, y1, y2⟩ := hvs2.get ej
                  have hlt := (List.getElem?_eq_some_iff.1 y1).1
                  exact ⟨y, by rw [List.getElem?_append_left hlt]; exact y1, y2.mono hx⟩
              obtain ⟨m1, m2, m3⟩ := W.mapped _ _ _ _ hm
              have W' := Wk.take (b := h.next) (B := B) (o := o + off) (N := N) (q := .cells c' elc (0, 0)) (by rw [Heap.get_new]; exact if_pos rfl) hnn m1 m2 ?_ ?_ hORel
              · refine ⟨upd μ h.next (B, o + off, N), .slice (some ⟨B, o + off, none⟩) (ln + (m + 1)) kc, w.putBlock B (.cells c' elc (0, 0)), ?_, hkill ⟨hx, W', Nat.le_succ _, fun d hd hdn => ?_⟩, ?_⟩
                · simp only [hroom, if_true, Sem.run_bind, hvs1, Result.andThen_ok, add_none, hsz', s1, Sem.run_pure]
                · have hne : d ≠ h.next := by have : d < h.next := hd; omega
                  exact ⟨by rw [upd_ne _ _ hne]; exact hdn, by rw [Heap.get_new]; exact if_neg hne⟩
                · have := VRel.slice (I := I) (off := 0) (len := ln + (m + 1)) (cap := kc) (sz := i.size) (upd_self μ h.next (B, o + off, N)) hroom (by rw [hsz']; omega)
                  simpa [Heap.kill] using this
              · intro d x o' N' hd hmd
                rw [Heap.get_new] at hd
                split at hd
                · rename_i q'; rw [q'] at hmd; rw [show (h.kill b).next = h.next from rfl, hnn] at hmd; cases hmd
                · rw [Heap.get_kill] at hd
                  split at hd
                  · cases hd
                  · rename_i q1 q2; exact q2 (W.inj _ _ _ _ _ _ _ _ _ hd hb hmd hm)
              · intro o' y hy
                exact (W.imm _ _ _ hy).2.2 _ _ _ _ hb hm
        · obtain ⟨_, _, _, k4'⟩ := elems_run (P := P) (W.drew (w.drawn + 1)) he r
          obtain ⟨us', hus'⟩ := k4' ln (Nat.le_refl _)
          rw [List.take_of_length_le (by omega)] at hus'
          obtain ⟨μ', u, w', g1, g2, g3⟩ := grow ka ln kc (h.kill b) old (by omega) c1 c2 (W.kill b) ⟨us', hus'.1, hus'.2⟩ (by rw [k1])
          refine ⟨μ', u, w', ?_, hkill g2, g3⟩
          simp only [hroom, if_false]
          exact_mod_cast g1
  · cases e

theorem aappend_run (W : WRel μ I w0 h w) {st xt : TypeId} {s x v : AV} {s' x' : Value} {h' : Heap} {ty : TypeId} (e : aappend P h st xt s x = some (v, h')) (r : VRel μ I s s') (q : VRel μ I x x') :
    ∃ μ' u w', (Builtin.append_ #[st, xt] ty #[s', x']).run P w = .ok u w' ∧ Goes P μ μ' I w0 h h' w' ∧ VRel μ' I v u := by
  unfold aappend at e
  split at e
  case h_2 => cases e
  case h_1 el hu =>
  split at e
  case h_2 => cases e
  case h_1 i z xd hi hz hx =>
  obtain ⟨hc, e⟩ := cond_some e
  simp only [Bool.and_eq_true] at hc
  obtain ⟨⟨c1, c2⟩, c3⟩ := hc
  have c1 := beq_tt c1
  have c2 := blt_lt c2
  obtain ⟨i', zv, hi', hzv, rfl, _⟩ := run_zeroValue (P := P) hz w
  rw [hi] at hi'; cases hi'
  have hzr : VRels μ I (ofV zv).cells zv.cells.toList := zero_rels (ofV_rel zv) c3
  have lz := hzr.length
  simp only [Array.length_toList] at lz
  have hzs : zv.cells.size = i.size := by omega
  have hzrun : ∀ w, (zeroValue el).run P w = .ok zv w := by
    intro w
    obtain ⟨i', zv', hi', hzv', hq, hrun⟩ := run_zeroValue (P := P) hz w
    rw [hi] at hi'; cases hi'
    rw [hzv] at hzv'; cases hzv'
    exact hrun
  have hs : sizeT P el = some i.size := by simp [sizeT, hi]
  split at e
  case h_2 => cases e
  case h_1 n new hn =>
  -- what is appended
  have e0 := e
  unfold appended at hn
  split at hn
  · rename_i k
    split at hn
    case h_2 => cases hn
    rename_i k' m
    obtain ⟨hb, hn⟩ := cond_some hn
    have hb := Nat.le_of_ble_eq_true hb
    simp at hn
    obtain ⟨rfl, rfl⟩ := hn
    have hx'v : x' = .int k' (Int.ofNat m) := by cases q; rfl
    subst hx'v
    have hnewrun : ∀ j, ∃ vs : List Value, (if m * i.size = 0 then pure #[] else do pure (Builtin.zeroCells (← zeroValue el).cells m) : Sem (Array Value)).run P { w with drawn := j } = .ok vs.toArray { w with drawn := j } ∧ VRels μ I (repl (ofV zv).cells m) vs := by
      intro j
      have hr0 := map_range_get zv.cells (m * zv.cells.size) (by omega)
      have hbase : VRels μ I (repl (ofV zv).cells m) (Builtin.zeroCells zv.cells m).toList := by
        unfold Builtin.zeroCells
        exact repl_rels hzr m hr0.1 hr0.2
      by_cases h0 : m * i.size = 0
      · have hm0 : m = 0 := by rcases Nat.mul_eq_zero.1 h0 with h | h <;> omega
        subst hm0
        exact ⟨[], by simp, .nil⟩
      · exact ⟨(Builtin.zeroCells zv.cells m).toList, by simp [h0, hzrun], hbase⟩
    obtain ⟨base, sLen, sCap, rfl, μ', u, w', g1, g2, g3⟩ := append_core (P := P) W hi hzrun hzs true _ (.int k' (Int.ofNat m)) hnewrun (by rw [repl_length, c1]) e r
    refine ⟨μ', u, w', ?_, g2, g3⟩
    rw [← g1]
    have hw : IntKind.i64.wrap (m : Int) = m := wrap_nat hb
    have hbytes : ¬ ((m : Int) * (i.bytes : Int) > 2 ^ 48) := by
      have : ((m : Int) * (i.bytes : Int)) = ((m * i.bytes : Nat) : Int) := by push_cast; rfl
      rw [this]
      have : m * i.bytes ≤ 281474976710656 := by
        cases hm : m with
        | zero => simp
        | succ m' =>
          subst hm
          have h2 : ∀ L : Nat, (2 * (L + (m' + 1)) + 1024) * i.bytes ≤ 140737488355328 → (m' + 1) * i.bytes ≤ 281474976710656 := by
            intro L hL
            have : (m' + 1) * i.bytes ≤ (2 * (L + (m' + 1)) + 1024) * i.bytes := Nat.mul_le_mul_right _ (by omega)
            omega
          unfold appendTo at e0
          split at e0
          · obtain ⟨hc, _⟩ := cond_some e0
            simp only [Bool.and_eq_true] at hc
            exact h2 0 (by have := Nat.le_of_ble_eq_true hc.1.1; simpa using this)
          · split at e0
            · obtain ⟨hc, _⟩ := cond_some e0
              simp only [Bool.and_eq_true] at hc
              exact h2 _ (Nat.le_of_ble_eq_true hc.1.1)
            · cases e0
          · cases e0
      omega
    have hneg : ¬ ((m : Int) < 0) := by omega
    have a0 : (#[st, xt] : Array TypeId)[0]? = some st := rfl
    have a1 : (#[st, xt] : Array TypeId)[1]? = some xt := rfl
    have a2 : ∀ a b : Value, (#[a, b] : Array Value)[0]? = some a := fun _ _ => rfl
    have a3 : ∀ a b : Value, (#[a, b] : Array Value)[1]? = some b := fun _ _ => rfl
    simp only [Builtin.append_, a0, a1, a2, a3, Sem.run_bind, run_underlying hu, run_underlying hx, Result.andThen_ok, run_sizeOf hs]
    simp only [asInt, asIntOf, Sem.run_bind, Sem.run_pure, Result.andThen_ok, if_true, Bool.not_true, Bool.false_eq_true, if_false, Int.ofNat_eq_natCast, hw, hneg, run_typeInfo hi, hbytes, Int.toNat_natCast]
    rfl
  · rename_i nany
    have hne : ∀ k, xd ≠ .int k := fun k hk => nany k hk
    obtain ⟨k1, k2, ⟨ka, kc, k3⟩, k4⟩ := elems_run (P := P) W hn q
    have hnewrun : ∀ j, ∃ vs : List Value, (Builtin.firstCells i.size n x').run P { w with drawn := j } = .ok vs.toArray { w with drawn := j } ∧ VRels μ I new vs := by
      intro j
      obtain ⟨_, _, _, k4⟩ := elems_run (P := P) (W.drew j) hn q
      obtain ⟨vs, h1, h2⟩ := k4 n (Nat.le_refl _)
      rw [List.take_of_length_le (by omega)] at h2
      exact ⟨vs, h1, h2⟩
    obtain ⟨base, sLen, sCap, rfl, μ', u, w', g1, g2, g3⟩ := append_core (P := P) W hi hzrun hzs false _ x' hnewrun k1 e r
    refine ⟨μ', u, w', ?_, g2, g3⟩
    have a0 : (#[st, xt] : Array TypeId)[0]? = some st := rfl
    have a1 : (#[st, xt] : Array TypeId)[1]? = some xt := rfl
    have a2 : ∀ a b : Value, (#[a, b] : Array Value)[0]? = some a := fun _ _ => rfl
    have a3 : ∀ a b : Value, (#[a, b] : Array Value)[1]? = some b := fun _ _ => rfl
    cases xd <;> first
      | exact absurd rfl (hne _)
      | (simp only [Builtin.append_, a0, a1, a2, a3, Sem.run_bind, run_underlying hu, run_underlying hx, Result.andThen_ok, run_sizeOf hs, Sem.run_pure, Bool.false_eq_true, if_false, k2, Bool.not_false, if_true, false_or] at g1 ⊢; exact g1)

/-- copy -/
theorem acopy_run (W : WRel μ I w0 h w) {t : TypeId} {d s v : AV} {d' s' : Value} {h' : Heap} {ts : Array TypeId} {ty : TypeId} (ht : ts[0]? = some t) (e : acopy P h t d s = some (v, h')) (r : VRel μ I d d') (q : VRel μ I s s') :
    ∃ u w', (Builtin.copy_ ts ty #[d', s']).run P w = .ok u w' ∧ Goes P μ μ I w0 h h' w' ∧ VRel μ I v u := by
  unfold acopy at e
  split at e
  case h_2 => cases e
  case h_1 el hu =>
  split at e
  case h_2 => cases e
  case h_1 sz hs =>
  cases hel : elems h sz s with
  | none => rw [hel] at e; simp at e
  | some nl =>
    obtain ⟨n, new⟩ := nl
    rw [hel] at e
    obtain ⟨k1, k2, _, k4⟩ := elems_run (P := P) W hel q
    have a2 : ∀ a b : Value, (#[a, b] : Array Value)[0]? = some a := fun _ _ => rfl
    have a3 : ∀ a b : Value, (#[a, b] : Array Value)[1]? = some b := fun _ _ => rfl
    cases r <;> simp only at e <;> first | (cases e; done) | skip
    case nils =>
      simp at e
      obtain ⟨rfl, rfl⟩ := e
      obtain ⟨vs, h1, h2⟩ := k4 0 (Nat.zero_le _)
      refine ⟨.int .i64 0, w, ?_, .refl W, .int _ _⟩
      simp [Builtin.copy_, ht, a2, a3, run_underlying hu, k2, run_sizeOf hs, h1, goInt]
    case slice b off len sz' cap B o N hm hl hN =>
      cases hb : h.get b with
      | none => rw [hb] at e; cases e
      | some ob =>
        rw [hb] at e
        split at e
        case h_2 => cases e
        case h_1 cs hq =>
        cases hq
        obtain ⟨hc, e⟩ := cond_some e
        simp at e
        obtain ⟨rfl, rfl⟩ := e
        simp only [Bool.and_eq_true] at hc
        obtain ⟨⟨c1, c2⟩, c3⟩ := hc
        have c1 := beq_tt c1
        have c2 := Nat.le_of_ble_eq_true c2
        subst c1
        obtain ⟨vs, h1, h2⟩ := k4 (Nat.min n len) (Nat.min_le_left _ _)
        obtain ⟨obj, ho, hor⟩ := W.objs _ _ _ _ _ hb hm
        cases hor with
        | cells g1 g2 g3 =>
          rename_i c elc
          have hle : Nat.min n len * sz ≤ len * sz := Nat.mul_le_mul_right _ (Nat.min_le_right _ _)
          have hle2 : Nat.min n len * sz ≤ n * sz := Nat.mul_le_mul_right _ (Nat.min_le_left _ _)
          have ln : (new.take (Nat.min n len * sz)).length = Nat.min n len * sz := by simp; omega
          have lv := h2.length
          have hone : (new.take (Nat.min n len * sz)).all AV.one = true := by
            rw [List.all_eq_true] at c3 ⊢
            intro x hx
            exact c3 x (List.mem_of_mem_take hx)
          obtain ⟨c', s1, s2⟩ := storeCells_run (P := P) (B := B) (o := o + off) vs 0 c w ho (by omega) (h2.oneCell hone)
          obtain ⟨z1, z2, z3⟩ := cells_splice (off := off) g1 g2 g3 h2 (by omega) s2
          have W' := W.update hb hm (.cells (e := elc) z1 z2 z3)
          refine ⟨.int .i64 (Nat.min n len), w.putBlock B (.cells c' elc (0, 0)), ?_, ⟨.refl _ _, W', Nat.le_refl _, fun d hd hn => ⟨hn, ?_⟩⟩, .int _ _⟩
          · simp [Builtin.copy_, ht, a2, a3, run_underlying hu, k2, run_sizeOf hs, h1, goInt, s1]
          · rw [Heap.get_set, if_neg (fun q => by subst q; rw [hm] at hn; cases hn)]
    case slice0 b off sz' B o N a hm =>
      cases hb : h.get b with
      | none => rw [hb] at e; cases e
      | some ob =>
        rw [hb] at e
        split at e
        case h_2 => cases e
        case h_1 cs hq =>
        cases hq
        obtain ⟨hc, e⟩ := cond_some e
        simp at e
        obtain ⟨rfl, rfl⟩ := e
        obtain ⟨vs, h1, h2⟩ := k4 0 (Nat.zero_le _)
        have hmin : Nat.min n 0 = 0 := Nat.min_zero n
        have hvs : vs = [] := by
          have := h2.length
          simp at this
          exact List.eq_nil_of_length_eq_zero this.symm
        subst hvs
        obtain ⟨obj, ho, hor⟩ := W.objs _ _ _ _ _ hb hm
        cases hor with
        | cells g1 g2 g3 =>
          rename_i c elc
          have hsp : splice cs off [] = cs := by simp [splice]
          have W' := W.update hb hm (ob' := .cells cs) (.cells (e := elc) g1 g2 g3)
          rw [putBlock_same w ho] at W'
          refine ⟨.int .i64 0, w, ?_, ⟨.refl _ _, by rw [hsp]; exact W', Nat.le_refl _, fun d hd hn => ⟨hn, ?_⟩⟩, .int _ _⟩
          · simp [Builtin.copy_, ht, a2, a3, run_underlying hu, k2, run_sizeOf hs, h1, goInt, storeCells]
          · rw [Heap.get_set, if_neg (fun q => by subst q; rw [hm] at hn; cases hn)]

end
end Go.Abs
/- Maps: an entry is written. -/
namespace Go.Abs
set_option linter.unusedSimpArgs false
set_option linter.unusedVariables false
open Go.RowKit (Below)
section
variable {P : Program} {μ : Mu} {I : Imm} {w0 w : World} {h h' : Heap}

theorem modE_rel {k v : AV} {uk uv : Value} (rk : VRel μ I k uk) (rv : VRel μ I v uv) : ∀ (i : Nat) {es : List AEntry} {ms : List MapEntry}, ERels μ I es ms → ERels μ I (modE i k v es) (ms.modify i fun e => { e with key := uk, val := uv })
  | i, _, _, .nil => by cases i <;> exact .nil
  | 0, _, _, .cons h1 h2 h3 h4 => by
    simp only [modE, List.modify_zero_cons]
    exact .cons rk rv h3 h4
  | i + 1, _, _, .cons h1 h2 h3 h4 => by
    simp only [modE, List.modify_succ_cons]
    exact .cons h1 h2 h3 (modE_rel rk rv i h4)

theorem ERels.push {es : List AEntry} {ms : List MapEntry} {a : AEntry} {c : MapEntry} (r : ERels μ I es ms) (h1 : VRel μ I a.key c.key) (h2 : VRel μ I a.val c.val) (h3 : a.born = c.born) : ERels μ I (es ++ [a]) (ms ++ [c]) := by
  induction r with
  | nil => exact .cons h1 h2 h3 .nil
  | cons a b d _ ih => exact .cons a b d ih

theorem all2_run {f : AV → AV → Bool} {g : Value → Value → Bool} (hf : ∀ a b u v, f a b = true → VRel μ I a u → VRel μ I b v → g u v = true) : ∀ {xs ys : List AV} {us vs : List Value}, all2 f xs ys = true → VRels μ I xs us → VRels μ I ys vs → us.length = vs.length ∧ ((us.zip vs).all fun p => g p.1 p.2) = true
  | [], [], _, _, _, .nil, .nil => ⟨rfl, rfl⟩
  | [], _ :: _, _, _, e, _, _ => by simp [all2] at e
  | _ :: _, [], _, _, e, _, _ => by simp [all2] at e
  | x :: xs, y :: ys, _, _, e, .cons a b, .cons c d => by
    simp only [all2, Bool.and_eq_true] at e
    obtain ⟨i1, i2⟩ := all2_run hf e.2 b d
    exact ⟨by simp [i1], by simp only [List.zip_cons_cons, List.all_cons, hf _ _ _ _ e.1 a c, i2, Bool.and_self]⟩

theorem sameA_run : ∀ (n : Nat) (a b : AV) (u v : Value), sameA n a b = true → VRel μ I a u → VRel μ I b v → Instr.sameBits n u v = true
  | 0, _, _, _, _, e, _, _ => by simp [sameA] at e
  | n + 1, a, b, u, v, e, r, q => by
    unfold sameA at e
    split at e
    · cases r; cases q; simpa [Instr.sameBits] using e
    · cases r; cases q; simpa [Instr.sameBits] using e
    · cases r; cases q; simpa [Instr.sameBits, beq_bytes] using e
    · cases r with | agg r => ?_
      cases q with | agg q => ?_
      have hl := all2_run (sameA_run n) e r q
      simp only [Array.length_toList] at hl
      simp only [Instr.sameBits, Bool.and_eq_true, beq_iff_eq]
      exact hl
    · cases e

theorem amapUpdate_run (W : WRel μ I w0 h w) {t : TypeId} {m k v : AV} {um uk uv : Value} (e : amapUpdate P h t m k v = some h') (rm : VRel μ I m um) (rk : VRel μ I k uk) (rv : VRel μ I v uv) :
    ∃ w', (Instr.mapUpdate t um uk uv).run P w = .ok () w' ∧ Goes P μ μ I w0 h h' w' := by
  unfold amapUpdate at e
  split at e
  case h_2 => cases e
  rename_i kt d et hmo
  obtain ⟨ht, hk⟩ := mapOf_spec hmo
  split at e
  case h_2 => cases e
  rename_i b
  cases rm with | map hmu => ?_
  rename_i B o N
  split at e
  case h_2 => cases e
  rename_i es ck hb
  obtain ⟨hok, e⟩ := cond_some e
  obtain ⟨obj, ho, hr⟩ := W.objs _ _ _ _ _ hb hmu
  cases hr with | map hes => ?_
  rename_i l
  have hg : (getObj B).run P w = .ok (.map l ck) w := by simp [getObj, Sem.run, ho]
  have hck : (Instr.checkKey false 10000 kt uk).run P w = .ok () w := keyOk_run w 10000 hok rk
  have upd : ∀ (es' : List AEntry) (l' : Array MapEntry) (ck' : Nat), ERels μ I es' l'.toList → Goes P μ μ I w0 h (h.set b (.map es' ck')) (w.putBlock B (.map l' ck')) := fun es' l' ck' hE =>
    ⟨.refl _ _, W.update hb hmu (.map hE), Nat.le_refl _, fun c hc ec => ⟨ec, by rw [Heap.get_set, if_neg (fun q => by subst q; rw [hmu] at ec; cases ec)]⟩⟩
  cases hf : findE P kt d k es 0 with
  | none => rw [hf] at e; cases e
  | some r =>
    rw [hf] at e
    obtain ⟨p, h1, h2⟩ := findKey_run hk rk w hf hes
    cases h2 with
    | none =>
      simp at e
      subst e
      refine ⟨_, ?_, upd _ (l.push { key := uk, val := uv, born := ck }) (ck + 1) (by simpa using hes.push rk rv rfl)⟩
      simp [Instr.mapUpdate, run_underlying ht, hg, hck, h1, setObj, Sem.run, ho]
      rfl
    | some hm h3 h4 h5 h6 =>
      rename_i i old vold u' x' mm
      simp at e
      obtain ⟨hs, e⟩ := cond_some e
      simp at e
      subst e
      have hsb := sameA_run 10000 _ _ _ _ hs h5 rk
      have hli : l[i]? = some mm := by rw [← Array.getElem?_toList]; exact hm
      refine ⟨_, ?_, upd _ (l.modify i fun e => { e with key := uk, val := uv }) ck (by rw [Array.toList_modify]; exact modE_rel rk rv i hes)⟩
      simp [Instr.mapUpdate, run_underlying ht, hg, hck, h1, hli, h3, Instr.keyThatStays, hsb, setObj, Sem.run, ho]
      rfl
end
end Go.Abs
/- Plans; what an operation depends on. -/
namespace Go.Abs
open Go.RowKit (Below)
set_option linter.unusedSimpArgs false
set_option linter.unusedVariables false

theorem tmGet_set (tm : Tr AV) (d t : Nat) (v : AV) : tmGet (tm.set d v) t = if t = d then v else tmGet tm t := by
  unfold tmGet
  rw [Tr.get_set]
  by_cases h : t = d <;> simp [h]

section
variable {P : Program} {h h' : Heap} {tm tm' : Tr AV} {o : Oper}

theorem map_eval {l : List Operand} (e : ∀ x ∈ l, evalOp tm x = evalOp tm' x) : l.map (evalOp tm) = l.map (evalOp tm') := List.map_congr_left e

theorem alight_congr (e : ∀ x ∈ o.op.operands.toList, evalOp tm x = evalOp tm' x) : alight P h tm o = alight P h tm' o := by
  obtain ⟨dst, op, type, pos, after, guard⟩ := o
  cases op <;> simp only [alight]
  case move x => rw [e x (by simp [Op.operands])]
  case assign x => rw [e x (by simp [Op.operands])]
  case pick c a b => rw [e c (by simp [Op.operands]), e a (by simp [Op.operands]), e b (by simp [Op.operands])]
  case build t parts =>
    congr 1
    refine List.map_congr_left fun p hp => ?_
    rw [e p.2 (by simp [Op.operands]; exact ⟨p.1, by simpa using hp⟩)]
  case load t a => rw [e a (by simp [Op.operands])]
  case nilCheck x => rw [e x (by simp [Op.operands])]
  case binOp op t x y yt => rw [e x (by simp [Op.operands]), e y (by simp [Op.operands])]
  case unOp op t x => rw [e x (by simp [Op.operands])]
  case convert s t x => rw [e x (by simp [Op.operands])]
  case makeInterface t x => rw [e x (by simp [Op.operands])]
  case makeFunc fn first captured =>
    cases fn <;> simp only
    rw [map_eval (tm := tm) (tm' := tm') (fun y hy => e y (by simp [Op.operands]; left; simpa using hy)), map_eval (tm := tm) (tm' := tm') (l := captured.toList) (fun y hy => e y (by simp [Op.operands]; right; simpa using hy))]
  case slice t x lo hi mx =>
    cases mx with
    | some m => rfl
    | none =>
      have h1 : optEval tm lo = optEval tm' lo := by
        cases lo with
        | none => rfl
        | some y => simp [optEval, e y (by simp [Op.operands])]
      have h2 : optEval tm hi = optEval tm' hi := by
        cases hi with
        | none => rfl
        | some y => simp [optEval, e y (by simp [Op.operands])]
      simp only
      rw [e x (by simp [Op.operands]), h1, h2]
  case lookup t x i ok => rw [e x (by simp [Op.operands]), e i (by simp [Op.operands])]
  case fieldAddr t x f => rw [e x (by simp [Op.operands])]
  case field t x f => rw [e x (by simp [Op.operands])]
  case indexAddr t x i => rw [e x (by simp [Op.operands]), e i (by simp [Op.operands])]
  case index t x i => rw [e x (by simp [Op.operands]), e i (by simp [Op.operands])]
  case typeAssert x xt t ok => rw [e x (by simp [Op.operands])]
  case extract x i => rw [e x (by simp [Op.operands])]
  case call c =>
    obtain ⟨callee, args, argTypes⟩ := c
    cases callee <;> simp only
    rename_i b
    have ha : ∀ x ∈ args.toList, evalOp tm x = evalOp tm' x := fun x hx => e x (by simp [Op.operands, Call.operands]; simpa using hx)
    split
    · rename_i x hx
      rw [hx] at ha
      split
      · rw [ha x (by simp)]
      · rfl
    · rename_i x xs hx
      rw [hx] at ha
      rw [ha x (by simp), map_eval (tm := tm) (tm' := tm') (fun y hy => ha y (by simp [hy]))]
    · rename_i x xs hx
      rw [hx] at ha
      rw [ha x (by simp), map_eval (tm := tm) (tm' := tm') (fun y hy => ha y (by simp [hy]))]
    · rfl

theorem afresh_congr {b : Nat} (e : ∀ x ∈ o.op.operands.toList, evalOp tm x = evalOp tm' x) : afresh P b tm o = afresh P b tm' o := by
  obtain ⟨dst, op, type, pos, after, guard⟩ := o
  cases op <;> simp only [afresh]
  case box t x => rw [e x (by simp [Op.operands])]
  case buildSlice t len parts =>
    have : (parts.toList.map fun p => (p.1, evalOp tm p.2)) = (parts.toList.map fun p => (p.1, evalOp tm' p.2)) := by
      refine List.map_congr_left fun p hp => ?_
      rw [e p.2 (by simp [Op.operands]; exact ⟨p.1, by simpa using hp⟩)]
    rw [this]
  case makeSlice t l c => rw [e l (by simp [Op.operands]), e c (by simp [Op.operands])]
  case makeMap t r =>
    cases r with
    | none => rfl
    | some x => simp only; rw [e x (by simp [Op.operands])]

/-- All blocks of h are in h'. -/
def Sub (h h' : Heap) : Prop := ∀ b ob, h.get b = some ob → h'.get b = some ob

theorem rowAt_sub (s : Sub h h') {a : AV} {cs : List AV} (e : rowAt h a = some cs) : rowAt h' a = some cs := by
  cases a <;> simp only [rowAt] at e ⊢ <;> first | exact e | skip
  split at e
  · rename_i q; rw [s _ _ q]; exact e
  · cases e

theorem alight_pure (hr : reads o = false) : alight P h tm o = alight P h' tm o := by
  obtain ⟨dst, op, type, pos, after, guard⟩ := o
  cases op
  case makeFunc fn a b => cases fn <;> rfl
  all_goals first | rfl | (simp [reads] at hr; done)

theorem aslice_sub (s : Sub h h') {t : TypeId} {a v : AV} {lo hi : Option AV} (e : aslice P h t a lo hi = some v) : aslice P h' t a lo hi = some v := by
  unfold aslice at e ⊢
  cases hu : P.underlying t with
  | none => rw [hu] at e; cases e
  | some d =>
    rw [hu] at e
    cases d <;> simp only at e ⊢ <;> first | exact e | skip
    cases a <;> simp only at e ⊢ <;> first | exact e | skip
    rename_i b off
    cases hb : h.get b with
    | none => rw [hb] at e; cases e
    | some ob => rw [s _ _ hb]; rw [hb] at e; exact e

theorem alen_sub (s : Sub h h') {t : TypeId} {a v : AV} (e : alen P h t a = some v) : alen P h' t a = some v := by
  unfold alen at e ⊢
  cases hu : P.underlying t with
  | none => rw [hu] at e; cases e
  | some d =>
    rw [hu] at e
    cases d <;> simp only at e ⊢ <;> first | exact e | skip
    cases a <;> simp only at e ⊢ <;> first | exact e | skip
    rename_i b
    cases hb : h.get b with
    | none => rw [hb] at e; cases e
    | some ob => rw [s _ _ hb]; rw [hb] at e; exact e

theorem entriesOf_sub (s : Sub h h') {a : AV} {es : List AEntry} (e : entriesOf h a = some es) : entriesOf h' a = some es := by
  cases a <;> simp only [entriesOf] at e ⊢ <;> first | exact e | skip
  rename_i b
  cases hb : h.get b with
  | none => rw [hb] at e; cases e
  | some ob => rw [s _ _ hb]; rw [hb] at e; exact e

theorem alookup_sub (s : Sub h h') {t : TypeId} {a i v : AV} {ok : Bool} (e : alookup P h t a i ok = some v) : alookup P h' t a i ok = some v := by
  unfold alookup at e ⊢
  cases hm : mapOf P t with
  | none => rw [hm] at e; cases e
  | some q =>
    rw [hm] at e
    obtain ⟨kt, d, et⟩ := q
    simp only at e ⊢
    cases he : entriesOf h a with
    | none => rw [he] at e; cases e
    | some es => rw [entriesOf_sub s he]; rw [he] at e; exact e

theorem alight_sub (s : Sub h h') {v : AV} (e : alight P h tm o = some v) : alight P h' tm o = some v := by
  obtain ⟨dst, op, type, pos, after, guard⟩ := o
  cases op
  case load t a =>
    simp only [alight, aload] at e ⊢
    cases hr : rowAt h (evalOp tm a) with
    | none => rw [hr] at e; cases e
    | some cs => rw [rowAt_sub s hr]; rw [hr] at e; exact e
  case lookup t x i ok => simp only [alight] at e ⊢; exact alookup_sub s e
  case slice t x lo hi mx =>
    cases mx with
    | some m => simp only [alight] at e; cases e
    | none => simp only [alight] at e ⊢; exact aslice_sub s e
  case call c =>
    obtain ⟨callee, args, argTypes⟩ := c
    cases callee
    case builtin b =>
      simp only [alight] at e ⊢
      generalize args.toList = l at e ⊢
      generalize argTypes.toList = ts at e ⊢
      cases b <;> cases l <;> first | exact e | skip
      rename_i x xs
      cases xs with
      | cons y ys => exact e
      | nil =>
        cases ts with
        | nil => exact e
        | cons t ts => exact alen_sub s e
    all_goals (simp only [alight] at e; cases e)
  all_goals first
    | (rw [← alight_pure (h := h) (h' := h') rfl]; exact e)
    | exact e

theorem AV.beq_eq : ∀ (n : Nat) {x y : AV}, AV.beq n x y = true → x = y := by
  intro n
  induction n with
  | zero => intro x y e; simp [AV.beq] at e
  | succ n ih =>
    have lists : ∀ {a b : List AV}, all2 (AV.beq n) a b = true → a = b := by
      intro a
      induction a with
      | nil => intro b e; cases b <;> simp [all2] at e ⊢
      | cons p a iha =>
        intro b e
        cases b with
        | nil => simp [all2] at e
        | cons q b =>
          simp only [all2, Bool.and_eq_true] at e
          rw [ih e.1, iha e.2]
    intro x y e
    unfold AV.beq at e
    split at e <;> first | rfl | (cases e; done) | skip
    all_goals try simp only [Bool.and_eq_true, decide_eq_true_eq] at e
    · rw [beq_iff_eq.1 e]
    · rw [e.1, e.2]
    · rw [e]
    · rw [beq_tt e.1, beq_tt e.2]
    · rw [lists e]
    · rw [beq_tt e.1.1.1, beq_tt e.1.1.2, beq_tt e.1.2, beq_tt e.2]
    · rw [lists e.1.1, beq_tt e.1.2, beq_tt e.2]
    · rw [beq_tt e]
    · rw [beq_tt e.1.1, lists e.1.2, lists e.2]
    · rw [beq_tt e]
    · rw [beq_tt e.1, ih e.2]
    · rw [lists e]
    · rw [lists e]

end

/-! ### Plans -/
/-- j must come ahead of i. -/
inductive Anc (ops : Array Oper) : Nat → Nat → Prop
  | base {j i : Nat} {o : Oper} : ops[i]? = some o → j ∈ predsOf o → Anc ops j i
  | step {j k i : Nat} {o : Oper} : Anc ops j k → ops[i]? = some o → k ∈ predsOf o → Anc ops j i

structure PlanOk (ops : Array Oper) (plan : List (Nat × List Nat)) : Prop where
  lt : ∀ i ∈ plan.map (·.1), i < ops.size
  nodup : (plan.map (·.1)).Nodup
  all : ∀ i, i < ops.size → i ∈ plan.map (·.1)
  pred : ∀ i o p, ops[i]? = some o → p ∈ predsOf o → p < i
  ord : ∀ pre i c post, plan = pre ++ (i, c) :: post → ∀ o, ops[i]? = some o →
    (∀ p ∈ predsOf o, p ∈ pre.map (·.1)) ∧
    (late o = true → ∃ d, o.dst = some d ∧ d ∉ looks ops o ∧ ∀ k o', ops[k]? = some o' → k ≠ i → d ∈ names ops o' → Anc ops i k) ∧
    (late o = false → (∀ x ∈ post, Anc ops i x.1) ∧
      (∀ k ∈ pre.map (·.1), ∀ o', ops[k]? = some o' → late o' = true → reads o' = true → Anc ops k i ∨ k ∈ c) ∧
      (∀ d, o.dst = some d → ∀ k o', ops[k]? = some o' → late o' = true → d ∈ names ops o' → Anc ops i k ∨ Anc ops k i))

theorem testBit_lor (a b i : Nat) : (Nat.lor a b).testBit i = (a.testBit i || b.testBit i) := Nat.testBit_or a b i

theorem maskOf_spec {ops : Array Oper} {acc ps : List Nat} {i : Nat} {o : Oper} (ho : ops[i]? = some o) (hps : ∀ p ∈ ps, p ∈ predsOf o) (hacc : ∀ k j, (acc.getD k 0).testBit j = true → Anc ops j k) :
    ∀ j, (maskOf acc ps).testBit j = true → Anc ops j i := by
  induction ps with
  | nil => intro j e; simp [maskOf] at e
  | cons p ps ih =>
    intro j e
    have : maskOf acc (p :: ps) = Nat.lor (Nat.lor (2 ^ p) (acc.getD p 0)) (maskOf acc ps) := rfl
    rw [this, testBit_lor, testBit_lor, Bool.or_eq_true, Bool.or_eq_true] at e
    rcases e with (e | e) | e
    · rw [Nat.testBit_two_pow] at e
      simp at e
      subst e
      exact .base ho (hps _ (by simp))
    · exact .step (hacc _ _ e) ho (hps _ (by simp))
    · exact ih (fun q hq => hps q (by simp [hq])) j e

theorem masks_spec {ops : Array Oper} : ∀ (l : List Oper) (acc : List Nat), (∀ i, l[i]? = ops[acc.length + i]?) → (∀ k j, (acc.getD k 0).testBit j = true → Anc ops j k) →
    ∀ k j, ((masks l acc).getD k 0).testBit j = true → Anc ops j k
  | [], acc, _, hacc => hacc
  | o :: l, acc, hl, hacc => by
    simp only [masks]
    have h0 : ops[acc.length]? = some o := by have := hl 0; simpa using this.symm
    refine masks_spec l _ (fun i => ?_) fun k j e => ?_
    · have := hl (i + 1)
      simp only [List.length_append, List.length_cons, List.length_nil]
      rw [show acc.length + (0 + 1) + i = acc.length + (i + 1) from by omega]
      simpa using this
    · by_cases hk : k < acc.length
      · rw [List.getD_eq_getElem?_getD, List.getElem?_append_left hk, ← List.getD_eq_getElem?_getD] at e
        exact hacc k j e
      · by_cases hk' : k = acc.length
        · subst hk'
          rw [List.getD_eq_getElem?_getD, List.getElem?_append_right (by omega)] at e
          simp at e
          exact maskOf_spec h0 (fun p hp => hp) hacc j e
        · rw [List.getD_eq_getElem?_getD, List.getElem?_append_right (by omega), List.getElem?_eq_none (by simp; omega)] at e
          simp at e

theorem distinctL_spec : ∀ {l : List Nat}, distinctL l = true → l.Nodup
  | [], _ => List.nodup_nil
  | x :: xs, e => by
    simp only [distinctL, Bool.and_eq_true, Bool.not_eq_true'] at e
    refine List.nodup_cons.2 ⟨?_, distinctL_spec e.2⟩
    intro hx
    have := List.elem_eq_true_of_mem hx
    rw [List.contains, this] at e
    cases e.1

theorem mem_of_contains {l : List Nat} {x : Nat} (h : l.contains x = true) : x ∈ l := by simpa using h
theorem not_mem_of_contains {l : List Nat} {x : Nat} (h : l.contains x = false) : x ∉ l := by
  intro hx
  have : l.contains x = true := by simpa using hx
  rw [h] at this; cases this

theorem mem_zipIdx_toList {ops : Array Oper} {k : Nat} {o : Oper} (h : ops[k]? = some o) : (o, k) ∈ ops.toList.zipIdx := by
  rw [List.mem_zipIdx_iff_getElem?]
  simpa using h

theorem planTail_spec {ops : Array Oper} {m : List Nat} (hm : ∀ k j, hasBit m k j = true → Anc ops j k) : ∀ (rest : List (Nat × List Nat)) (pre0 : List Nat), planTail ops ops.toList.zipIdx m pre0 rest = true →
    ∀ pre i c post, rest = pre ++ (i, c) :: post → ∀ o, ops[i]? = some o →
    (∀ p ∈ predsOf o, p ∈ pre0 ++ pre.map (·.1)) ∧
    (late o = true → ∃ d, o.dst = some d ∧ d ∉ looks ops o ∧ ∀ k o', ops[k]? = some o' → k ≠ i → d ∈ names ops o' → Anc ops i k) ∧
    (late o = false → (∀ x ∈ post, Anc ops i x.1) ∧
      (∀ k ∈ pre0 ++ pre.map (·.1), ∀ o', ops[k]? = some o' → late o' = true → reads o' = true → Anc ops k i ∨ k ∈ c) ∧
      (∀ d, o.dst = some d → ∀ k o', ops[k]? = some o' → late o' = true → d ∈ names ops o' → Anc ops i k ∨ Anc ops k i)) := by
  intro rest
  induction rest with
  | nil => intro pre0 _ pre i c post e; simp at e
  | cons x rest ih =>
    intro pre0 e pre i c post hr o ho
    obtain ⟨i0, c0⟩ := x
    simp only [planTail, Bool.and_eq_true] at e
    obtain ⟨e1, e2⟩ := e
    cases pre with
    | nil =>
      simp only [List.nil_append, List.cons.injEq, Prod.mk.injEq] at hr
      obtain ⟨⟨rfl, rfl⟩, rfl⟩ := hr
      simp only [List.map_nil, List.append_nil]
      rw [ho] at e1
      simp only [Bool.and_eq_true, List.all_eq_true] at e1
      obtain ⟨e1, e3⟩ := e1
      refine ⟨fun p hp => mem_of_contains (e1 p hp), fun hl => ?_, fun hl => ?_⟩
      · rw [hl] at e3
        simp only [cond_true] at e3
        cases hd : o.dst with
        | none => rw [hd] at e3; cases e3
        | some d =>
          rw [hd] at e3
          simp only [Bool.and_eq_true, List.all_eq_true, Bool.not_eq_true'] at e3
          refine ⟨d, rfl, not_mem_of_contains e3.1, fun k o' hk hne hn => ?_⟩
          have := e3.2 _ (mem_zipIdx_toList hk)
          simp only [Bool.or_eq_true, Bool.not_eq_true'] at this
          rcases this with (q | q) | q
          · exact absurd (beq_tt q) hne
          · exact absurd hn (not_mem_of_contains q)
          · exact hm _ _ q
      · rw [hl] at e3
        simp only [cond_false, Bool.and_eq_true, List.all_eq_true] at e3
        obtain ⟨⟨a1, a2⟩, a3⟩ := e3
        refine ⟨fun x hx => hm _ _ (a1 x hx), fun k hk o' hk' h1 h2 => ?_, fun d hd k o' hk h1 hn => ?_⟩
        · have := a2 k hk
          rw [hk'] at this
          simp only [h1, h2, Bool.not_true, Bool.false_or, Bool.or_eq_true] at this
          rcases this with q | q
          · exact .inl (hm _ _ q)
          · exact .inr (mem_of_contains q)
        · rw [hd] at a3
          simp only [List.all_eq_true] at a3
          have := a3 _ (mem_zipIdx_toList hk)
          simp only [h1, Bool.not_true, Bool.false_or, Bool.or_eq_true, Bool.not_eq_true'] at this
          rcases this with (q | q) | q
          · exact absurd hn (not_mem_of_contains q)
          · exact .inl (hm _ _ q)
          · exact .inr (hm _ _ q)
    | cons y pre =>
      simp only [List.cons_append, List.cons.injEq] at hr
      obtain ⟨rfl, rfl⟩ := hr
      have := ih (pre0 ++ [i0]) e2 pre i c post rfl o ho
      simpa using this

theorem length_le_of_lt : ∀ (n : Nat) (l : List Nat), l.Nodup → (∀ x ∈ l, x < n) → l.length ≤ n
  | 0, l, _, h => by
    cases l with
    | nil => simp
    | cons x xs => have := h x (by simp); omega
  | n + 1, l, hn, h => by
    by_cases hm : n ∈ l
    · have h1 := length_le_of_lt n (l.erase n) (hn.erase n) (fun x hx => by
        have h2 := h x (List.mem_of_mem_erase hx)
        have h3 : x ≠ n := fun q => by subst q; exact (hn.mem_erase_iff.1 hx).1 rfl
        omega)
      rw [List.length_erase_of_mem hm] at h1
      omega
    · have h1 := length_le_of_lt n l hn (fun x hx => by
        have h2 := h x hx
        have h3 : x ≠ n := fun q => hm (q ▸ hx)
        omega)
      omega

theorem planOk_spec {ops : Array Oper} {plan : List (Nat × List Nat)} (e : planOk ops plan = true) : PlanOk ops plan := by
  simp only [planOk, Bool.and_eq_true, List.all_eq_true] at e
  obtain ⟨⟨⟨⟨e1, e2⟩, e3⟩, e4⟩, e5⟩ := e
  have hlt : ∀ i ∈ plan.map (·.1), i < ops.size := fun i hi => blt_lt (e1 i hi)
  have hnd := distinctL_spec e2
  have hm : ∀ k j, hasBit (masks ops.toList []) k j = true → Anc ops j k := by
    intro k j h
    refine masks_spec ops.toList [] (fun i => by simp) (fun k j e => by simp at e) k j ?_
    exact h
  refine ⟨hlt, hnd, fun i hi => ?_, fun i o p ho hp => ?_, fun pre i c post hp o ho => ?_⟩
  · -- a list of distinct numbers below n that is as long as n holds each
    have hlen : (plan.map (·.1)).length = ops.size := by simpa using beq_tt e3
    exact Decidable.byContradiction fun hn => by
      have := length_le_of_lt ops.size (i :: plan.map (·.1)) (List.nodup_cons.2 ⟨hn, hnd⟩) (fun x hx => by
        rcases List.mem_cons.1 hx with rfl | hx
        · exact hi
        · exact hlt x hx)
      simp only [List.length_cons] at this
      omega
  · have := e4 _ (mem_zipIdx_toList ho)
    simp only [List.all_eq_true] at this
    exact blt_lt (this p hp)
  · have := planTail_spec hm plan [] e5 pre i c post hp o ho
    simpa using this

end Go.Abs
/- Frames: how they stand to the model's. -/
namespace Go.Abs
open Go.RowKit (Below)
set_option linter.unusedSimpArgs false
set_option linter.unusedVariables false

/-! ### Orders that respect a region's edges -/
structure Lin (ops : Array Oper) (L : List Nat) : Prop where
  nodup : L.Nodup
  lt : ∀ i ∈ L, i < ops.size
  ord : ∀ a i b, L = a ++ i :: b → ∀ o, ops[i]? = some o → ∀ p ∈ predsOf o, p ∈ a

theorem Lin.anc {ops : Array Oper} {L : List Nat} (h : Lin ops L) {j i : Nat} (c : Anc ops j i) : ∀ {a b : List Nat}, L = a ++ i :: b → j ∈ a := by
  induction c with
  | base ho hp => intro a b e; exact h.ord a _ b e _ ho _ hp
  | step _ ho hp ih =>
    rename_i k i o _
    intro a b e
    have hk := h.ord a _ b e _ ho _ hp
    obtain ⟨a1, a2, rfl⟩ := List.append_of_mem hk
    have := ih (a := a1) (b := a2 ++ i :: b) (by rw [e]; simp)
    simp [this]

/-- In such an order nothing comes behind what needs it. -/
theorem Lin.not_anc {ops : Array Oper} {L : List Nat} (h : Lin ops L) {a b : List Nat} {i j : Nat} (e : L = a ++ i :: b) (hj : j ∈ b) : ¬ Anc ops j i := by
  intro hc
  have h1 := h.anc hc e
  have hn := h.nodup
  rw [e, List.nodup_append] at hn
  exact hn.2.2 _ h1 _ (List.mem_cons_of_mem _ hj) rfl

theorem linGo {ops : Array Oper} (hp : ∀ i o p, ops[i]? = some o → p ∈ predsOf o → p < i) : ∀ (fuel t : Nat) (listed : Array Bool) (acc : List Nat),
    listed.size = ops.size → acc.length + fuel = ops.size → acc.Nodup → (∀ i, i < ops.size → (listed.getD i false = true ↔ i ∈ acc)) → (∀ i ∈ acc, i < ops.size) →
    (∀ a i b, acc.reverse = a ++ i :: b → ∀ o, ops[i]? = some o → ∀ p ∈ predsOf o, p ∈ a) →
    Lin ops (Region.linearise.go .any ops fuel t listed acc) ∧ (Region.linearise.go .any ops fuel t listed acc).length = ops.size := by
  intro fuel
  induction fuel with
  | zero =>
    intro t listed acc hs hl hn hm hlt ho
    simp only [Region.linearise.go]
    exact ⟨⟨by unfold List.Nodup; rw [List.pairwise_reverse]; exact hn.imp Ne.symm, fun i hi => hlt i (by simpa using hi), ho⟩, by simp; omega⟩
  | succ fuel ih =>
    intro t listed acc hs hl hn hm hlt ho
    simp only [Region.linearise.go]
    have getD_eq : ∀ i, i < ops.size → listed.getD i true = listed.getD i false := by
      intro i hi
      simp [Array.getD_eq_getD_getElem?, hs, hi]
    have hready : ∀ i, i ∈ ((List.range ops.size).filter fun i => !listed.getD i true && ((ops[i]?).map (·.after.all fun e => !Region.binds .any e || listed.getD e.on false)).getD false) ↔
        i < ops.size ∧ i ∉ acc ∧ ∀ o, ops[i]? = some o → ∀ p ∈ predsOf o, p ∈ acc := by
      intro i
      rw [List.mem_filter, List.mem_range, Bool.and_eq_true]
      constructor
      · rintro ⟨h1, h2, h3⟩
        rw [getD_eq i h1] at h2
        refine ⟨h1, fun hi => ?_, fun o hop p hpp => ?_⟩
        · rw [(hm i h1).2 hi] at h2; cases h2
        · rw [hop] at h3
          simp only [Option.map_some, Option.getD_some] at h3
          unfold predsOf at hpp
          rw [List.mem_filterMap] at hpp
          obtain ⟨e, he, hq⟩ := hpp
          rw [Array.all_eq_true'] at h3
          have := h3 e (by simpa using he)
          split at hq
          · rename_i hb
            simp at hq
            subst hq
            simp only [hb, Bool.not_true, Bool.false_or] at this
            have hlt' := hp i o e.on hop (by unfold predsOf; rw [List.mem_filterMap]; exact ⟨e, he, by simp [hb]⟩)
            exact (hm _ (by omega)).1 this
          · cases hq
      · rintro ⟨h1, h2, h3⟩
        refine ⟨h1, ?_, ?_⟩
        · rw [getD_eq i h1]
          cases hq : listed.getD i false with
          | true => exact absurd ((hm i h1).1 hq) h2
          | false => rfl
        · have : ops[i]? = some ops[i] := by simp [h1]
          rw [this]
          simp only [Option.map_some, Option.getD_some]
          rw [Array.all_eq_true']
          intro e he
          cases hb : Region.binds .any e with
          | false => rfl
          | true =>
            have hpp : e.on ∈ predsOf ops[i] := by unfold predsOf; rw [List.mem_filterMap]; exact ⟨e, by simpa using he, by simp [hb]⟩
            have hlt' := hp i _ e.on this hpp
            simp only [Bool.not_true, Bool.false_or]
            exact (hm _ (by omega)).2 (h3 _ this _ hpp)
    generalize hrs : ((List.range ops.size).filter fun i => !listed.getD i true && ((ops[i]?).map (·.after.all fun e => !Region.binds .any e || listed.getD e.on false)).getD false) = rs at hready
    -- something is ready
    have hne : rs ≠ [] := by
      intro h0
      -- the least number that is not listed
      have : ∃ i, i < ops.size ∧ i ∉ acc := by
        refine Decidable.byContradiction fun hno => ?_
        have hall : ∀ i, i < ops.size → i ∈ acc := fun i hi => Decidable.byContradiction fun hq => hno ⟨i, hi, hq⟩
        have h1 : (List.range ops.size).length ≤ acc.length := by
          have hsub : ∀ x ∈ List.range ops.size, x ∈ acc := fun x hx => hall x (List.mem_range.1 hx)
          exact (List.nodup_range.length_le_of_subset hsub)
        simp at h1
        omega
      obtain ⟨i, hi, hia⟩ := this
      have key : ∀ n i, i ≤ n → i < ops.size → i ∉ acc → ∃ j, j ∈ rs := by
        intro n
        induction n with
        | zero =>
          intro i hle hi hia
          have : i = 0 := by omega
          subst this
          exact ⟨0, (hready 0).2 ⟨hi, hia, fun o hop p hpp => by have := hp 0 o p hop hpp; omega⟩⟩
        | succ n ihn =>
          intro i hle hi hia
          by_cases hall : ∀ o, ops[i]? = some o → ∀ p ∈ predsOf o, p ∈ acc
          · exact ⟨i, (hready i).2 ⟨hi, hia, hall⟩⟩
          · have : ∃ p, p < i ∧ p ∉ acc := by
              refine Classical.byContradiction fun hno => hall fun o hop p hpp => Classical.byContradiction fun hq => hno ⟨p, hp i o p hop hpp, hq⟩
            obtain ⟨p, hp1, hp2⟩ := this
            exact ihn p (by omega) (by omega) hp2
      obtain ⟨j, hj⟩ := key i i (Nat.le_refl _) hi hia
      rw [h0] at hj
      cases hj
    have hpos : 0 < rs.length := List.length_pos_iff.2 hne
    have hlt2 : t % rs.length < rs.length := Nat.mod_lt _ hpos
    have hget : rs[t % rs.length]? = some (rs[t % rs.length]'hlt2) := List.getElem?_eq_getElem hlt2
    rw [hget]
    simp only
    generalize hi0 : rs[t % rs.length]'hlt2 = i
    have hi : i ∈ rs := by rw [← hi0]; exact List.getElem_mem _
    obtain ⟨h1, h2, h3⟩ := (hready i).1 hi
    refine ih _ _ _ (by simpa using hs) (by simp; omega) (List.nodup_cons.2 ⟨h2, hn⟩) ?_ ?_ ?_
    · intro k hk
      by_cases hki : i = k
      · subst hki
        simp [Array.getD_eq_getD_getElem?, hs, h1]
      · have : (listed.setIfInBounds i true).getD k false = listed.getD k false := by
          simp [Array.getD_eq_getD_getElem?, Array.getElem?_setIfInBounds_ne hki]
        rw [this, hm k hk]
        simp [Ne.symm hki]
    · intro k hk
      rcases List.mem_cons.1 hk with rfl | hk
      · exact h1
      · exact hlt k hk
    · intro a k b e o hop p hpp
      rw [List.reverse_cons] at e
      rcases List.append_eq_append_iff.1 e with ⟨c, hc1, hc2⟩ | ⟨c, hc1, hc2⟩
      · -- a = acc.reverse ++ c
        cases c with
        | nil =>
          simp at hc2
          obtain ⟨rfl, rfl⟩ := hc2
          subst hc1
          have := h3 o hop p hpp
          simpa using this
        | cons x xs => simp at hc2
      · cases c with
        | nil =>
          simp at hc1 hc2
          obtain ⟨rfl, rfl⟩ := hc2
          have := h3 o hop p hpp
          rw [← hc1]
          simpa using this
        | cons x xs =>
          simp only [List.cons_append, List.cons.injEq] at hc2
          obtain ⟨rfl, rfl⟩ := hc2
          exact ho a k xs hc1 o hop p hpp

theorem lin_schedule {ops : Array Oper} (hp : ∀ i o p, ops[i]? = some o → p ∈ predsOf o → p < i) (t : Nat) :
    Lin ops (Region.schedule true ops t) ∧ (Region.schedule true ops t).length = ops.size := by
  simp only [Region.schedule, Bool.true_or, if_true, Region.linearise]
  exact linGo hp ops.size t (Array.replicate ops.size false) [] (by simp) (by simp) List.nodup_nil (fun i hi => by simp [Array.getD_eq_getD_getElem?, hi]) (by simp) (by simp)

end Go.Abs
namespace Go.Abs
open Go.RowKit (Below)
set_option linter.unusedSimpArgs false
set_option linter.unusedVariables false
set_option linter.unusedSectionVars false

inductive ItRel (μ : Mu) : AItem → Item → Prop
  | code (c : Code) : ItRel μ (.code c) (.code c)
  | inBlock (id : Nat) : ItRel μ (.inBlock id) (.inBlock id)
  | inLoop (b : Code) : ItRel μ (.inLoop b) (.inLoop b)
  | inScope (b : Code) : ItRel μ (.inScope b) (.inScope b)
  | reg (ops : Array Oper) (i : Nat) : ItRel μ (.reg ops i (ops.toList.drop i)) (.inRegion ops (List.range' i (ops.size - i)))
  | inRangeFunc {l B o N : Nat} : μ l = some (B, o, N) → ItRel μ (.inRangeFunc l) (.inRangeFunc B)
  | endRangeFunc {l B o N : Nat} : μ l = some (B, o, N) → ItRel μ (.endRangeFunc l) (.endRangeFunc B)
  | beginRound : ItRel μ .beginRound .beginRound
inductive ItRels (μ : Mu) : List AItem → List Item → Prop
  | nil : ItRels μ [] []
  | cons {a : AItem} {c : Item} {as_ : List AItem} {cs : List Item} : ItRel μ a c → ItRels μ as_ cs → ItRels μ (a :: as_) (c :: cs)

inductive ChRel (μ : Mu) (I : Imm) : List APanic → List PanicEntry → Prop
  | nil : ChRel μ I [] []
  | cons {v : AV} {u : Value} {r : Bool} {a : List APanic} {c : List PanicEntry} : VRel μ I v u → ChRel μ I a c → ChRel μ I ({ v, recovered := r } :: a) ({ v := u, recovered := r } :: c)

/-- Does it make a block? -/
def isNew (o : Oper) : Bool :=
  match o.op with
  | .alloc _ | .box .. | .buildSlice .. | .makeSlice .. | .makeMap .. => true
  | _ => false

/-- Not in the rest of the plan. -/
def Gone (restA : List (Nat × List Nat)) (i : Nat) : Prop := ∀ x ∈ restA, x.1 ≠ i

/-- What is known of an operation that the abstract machine has carried out and the model has not. -/
def Pend (P : Program) (μ : Mu) (h : Heap) (act : Bool) (lo hi : Nat) (ops : Array Oper) (tm : Tr AV) (o : Oper) (d : Nat) (β : Nat) : Prop :=
  match awanted ops tm o with
  | some true => if isNew o = true then ∃ ob, afresh P β tm o = some (ob, tmGet tm d) ∧ μ β = none ∧ h.get β = some ob ∧ lo ≤ β ∧ β < hi
      else (act = true ∨ reads o = false) → alight P h tm o = some (tmGet tm d)
  | some false => tmGet tm d = .tuple []
  | none => False

structure DReg (P : Program) (μ : Mu) (I : Imm) (h : Heap) (act : Bool) (lo hi : Nat) (ops : Array Oper) (plan : List (Nat × List Nat)) (β : Nat → Nat) (restA : List (Nat × List Nat)) (restC : List Nat) (tm : Tr AV) (tmps : Array Value) : Prop where
  ok : PlanOk ops plan
  pre : ∃ pre, plan = pre ++ restA
  lin : ∃ doneC, Lin ops (doneC ++ restC)
  sub : ∀ x ∈ restA, x.1 ∈ restC
  pend : ∀ i ∈ restC, Gone restA i → ∃ o d, ops[i]? = some o ∧ o.dst = some d ∧ late o = true ∧ d < tmps.size ∧ Pend P μ h act lo hi ops tm o d (β i)
  inj : ∀ i ∈ restC, ∀ j ∈ restC, Gone restA i → Gone restA j → ∀ o o', ops[i]? = some o → ops[j]? = some o' → isNew o = true → isNew o' = true → awanted ops tm o = some true → awanted ops tm o' = some true → β i = β j → i = j
  tms : ∀ t v, tm.get t = some v → (∀ i ∈ restC, Gone restA i → ∀ o, ops[i]? = some o → o.dst ≠ some t) → VRel μ I v (tmps.getD t undef)

inductive TodoRel (P : Program) (μ : Mu) (I : Imm) (h : Heap) (act : Bool) (lo hi : Nat) : List AItem → Tr AV → List Item → Array Value → Prop
  | plain {todo : List AItem} {tm : Tr AV} {todoc : List Item} {tmps : Array Value} : ItRels μ todo todoc → TRel μ I tm tmps → TodoRel P μ I h act lo hi todo tm todoc tmps
  | drawn {ops : Array Oper} {plan restA : List (Nat × List Nat)} {β : Nat → Nat} {restC : List Nat} {k : List AItem} {kc : List Item} {tm : Tr AV} {tmps : Array Value} :
      ItRels μ k kc → DReg P μ I h act lo hi ops plan β restA restC tm tmps →
      (act = false → ∃ i c ra rc o, restA = (i, c) :: ra ∧ restC = i :: rc ∧ ops[i]? = some o ∧ late o = false) → TodoRel P μ I h act lo hi (.dreg ops restA :: k) tm (.inRegion ops restC :: kc) tmps

inductive StRel (P : Program) (μ : Mu) (I : Imm) (h : Heap) (act : Bool) (lo hi : Nat) : AMode → List AItem → Tr AV → Frame → Prop
  | run {todo : List AItem} {tm : Tr AV} {c : Frame} : c.mode = .run → TodoRel P μ I h act lo hi todo tm c.todo c.tmps → StRel P μ I h act lo hi .run todo tm c
  | ret {todo : List AItem} {tm : Tr AV} {c : Frame} : c.mode = .returning → TRel μ I tm c.tmps → StRel P μ I h act lo hi .returning todo tm c
  | pan {todo : List AItem} {tm : Tr AV} {c : Frame} {a : List APanic} {b : List PanicEntry} : c.mode = .panicking b → ChRel μ I a b → TRel μ I tm c.tmps → StRel P μ I h act lo hi (.panicking a) todo tm c

inductive RoundRel (μ : Mu) : Option Nat → Option Nat → Prop
  | none : RoundRel μ none none
  | some {l B o N : Nat} : μ l = some (B, o, N) → RoundRel μ (some l) (some B)

structure FRel (P : Program) (μ : Mu) (I : Imm) (h : Heap) (act : Bool) (lo hi : Nat) (f : AFrame) (c : Frame) : Prop where
  fn : c.fn = f.fn
  has : ∃ fn, P.funcs[f.fn]? = some fn
  kind : c.kind = if f.deferred = true then .deferred else .normal
  round : RoundRel μ f.roundOf c.roundOf
  defers : DRels μ I f.defers c.defers
  size : c.tmps.size = f.nt
  st : StRel P μ I h act lo hi f.mode f.todo f.tm c

/-- The callers; 'ub': what they wait for lies below. -/
inductive Stack (P : Program) (μ : Mu) (I : Imm) (h : Heap) : Nat → List AFrame → List Frame → Prop
  | nil {ub : Nat} : Stack P μ I h ub [] []
  | cons {ub lo : Nat} {f : AFrame} {c : Frame} {fs : List AFrame} {cs : List Frame} : FRel P μ I h false lo ub f c → lo ≤ ub → Stack P μ I h lo fs cs → Stack P μ I h ub (f :: fs) (c :: cs)

structure MRel (P : Program) (μ : Mu) (I : Imm) (w0 : World) (m : AMach) (c : Frame) (cs : List Frame) (w : World) : Prop where
  frame : ∃ lo, lo ≤ m.h.next ∧ FRel P μ I m.h true lo m.h.next m.fr c ∧ Stack P μ I m.h lo m.callers cs
  world : WRel μ I w0 m.h w

/-! ### How they are kept -/
section
variable {P : Program} {μ μ' : Mu} {I : Imm} [GlobI I] {h h' : Heap} {w0 w : World}

theorem ItRel.mono (x : ∀ b y, μ b = some y → μ' b = some y) {a : AItem} {c : Item} (r : ItRel μ a c) : ItRel μ' a c := by
  cases r with
  | code c => exact .code c
  | inBlock id => exact .inBlock id
  | inLoop b => exact .inLoop b
  | inScope b => exact .inScope b
  | reg ops i => exact .reg ops i
  | inRangeFunc e => exact .inRangeFunc (x _ _ e)
  | endRangeFunc e => exact .endRangeFunc (x _ _ e)
  | beginRound => exact .beginRound
theorem ItRels.mono (x : ∀ b y, μ b = some y → μ' b = some y) {a : List AItem} {c : List Item} (r : ItRels μ a c) : ItRels μ' a c := by
  induction r with
  | nil => exact .nil
  | cons h _ ih => exact .cons (h.mono x) ih
theorem ChRel.mono (x : Ext μ μ' I I) {a : List APanic} {c : List PanicEntry} (r : ChRel μ I a c) : ChRel μ' I a c := by
  induction r with
  | nil => exact .nil
  | cons h _ ih => exact .cons (h.mono x) ih
theorem ChRel.append {a b : List APanic} {c d : List PanicEntry} (r : ChRel μ I a c) (q : ChRel μ I b d) : ChRel μ I (a ++ b) (c ++ d) := by
  induction r with
  | nil => exact q
  | cons h _ ih => exact .cons h ih
theorem RoundRel.mono (x : Ext μ μ' I I) {a b : Option Nat} (r : RoundRel μ a b) : RoundRel μ' a b := by
  cases r with
  | none => exact .none
  | some e => exact .some (x.mu _ _ e)

/-- What is below 'n' is as it was. -/
def KeepBelow (n : Nat) (μ μ' : Mu) (h h' : Heap) : Prop := ∀ b, b < n → μ b = none → μ' b = none ∧ h'.get b = h.get b

theorem Pend.mono {hi : Nat} (k : KeepBelow hi μ μ' h h') {lo : Nat} {ops : Array Oper} {tm : Tr AV} {o : Oper} {d β : Nat} (p : Pend P μ h false lo hi ops tm o d β) : Pend P μ' h' false lo hi ops tm o d β := by
  unfold Pend at p ⊢
  cases hw : awanted ops tm o with
  | none => rw [hw] at p; exact p
  | some b =>
    rw [hw] at p
    cases b with
    | false => exact p
    | true =>
      simp only at p ⊢
      split at p
      · rename_i hn
        obtain ⟨ob, h1, h2, h3, h4, h5⟩ := p
        obtain ⟨k1, k2⟩ := k β h5 h2
        rw [if_pos hn]
        exact ⟨ob, h1, k1, by rw [k2]; exact h3, h4, h5⟩
      · rename_i hn
        rw [if_neg hn]
        intro hr
        have hr' : reads o = false := hr.resolve_left (by simp)
        rw [alight_pure (h' := h) hr']
        exact p (.inr hr')

theorem DReg.mono {hi : Nat} (x : Ext μ μ' I I) (k : KeepBelow hi μ μ' h h') {lo : Nat} {ops : Array Oper} {plan restA : List (Nat × List Nat)} {β : Nat → Nat} {restC : List Nat} {tm : Tr AV} {tmps : Array Value}
    (r : DReg P μ I h false lo hi ops plan β restA restC tm tmps) : DReg P μ' I h' false lo hi ops plan β restA restC tm tmps :=
  ⟨r.ok, r.pre, r.lin, r.sub, fun i hi hg => let ⟨o, d, h1, h2, h3, h5, h4⟩ := r.pend i hi hg; ⟨o, d, h1, h2, h3, h5, h4.mono k⟩, r.inj, fun t v e hn => (r.tms t v e hn).mono x⟩

theorem TodoRel.mono {hi : Nat} (x : Ext μ μ' I I) (k : KeepBelow hi μ μ' h h') {lo : Nat} {todo : List AItem} {tm : Tr AV} {todoc : List Item} {tmps : Array Value} (r : TodoRel P μ I h false lo hi todo tm todoc tmps) :
    TodoRel P μ' I h' false lo hi todo tm todoc tmps := by
  cases r with
  | plain a b => exact .plain (a.mono x.mu) (b.mono x)
  | drawn a b c => exact .drawn (a.mono x.mu) (b.mono x k) c

theorem StRel.mono {hi : Nat} (x : Ext μ μ' I I) (k : KeepBelow hi μ μ' h h') {lo : Nat} {m : AMode} {todo : List AItem} {tm : Tr AV} {c : Frame} (r : StRel P μ I h false lo hi m todo tm c) : StRel P μ' I h' false lo hi m todo tm c := by
  cases r with
  | run a b => exact .run a (b.mono x k)
  | ret a b => exact .ret a (b.mono x)
  | pan a b c => exact .pan a (b.mono x) (c.mono x)

theorem FRel.mono {hi : Nat} (x : Ext μ μ' I I) (k : KeepBelow hi μ μ' h h') {lo : Nat} {f : AFrame} {c : Frame} (r : FRel P μ I h false lo hi f c) : FRel P μ' I h' false lo hi f c :=
  ⟨r.fn, r.has, r.kind, r.round.mono x, r.defers.mono x, r.size, r.st.mono x k⟩

theorem Stack.mono (x : Ext μ μ' I I) {ub : Nat} {fs : List AFrame} {cs : List Frame} (r : Stack P μ I h ub fs cs) (k : KeepBelow ub μ μ' h h') : Stack P μ' I h' ub fs cs := by
  induction r with
  | nil => exact .nil
  | cons a b _ ih => exact .cons (a.mono x k) b (ih fun c hc e => k c (Nat.lt_of_lt_of_le hc b) e)

/-- A running frame waits. -/
theorem Pend.wait {lo hi : Nat} {ops : Array Oper} {tm : Tr AV} {o : Oper} {d β : Nat} (p : Pend P μ h true lo hi ops tm o d β) : Pend P μ h false lo hi ops tm o d β := by
  unfold Pend at p ⊢
  cases hw : awanted ops tm o with
  | none => rw [hw] at p; exact p
  | some b =>
    rw [hw] at p
    cases b with
    | false => exact p
    | true =>
      simp only at p ⊢
      split at p
      · rename_i hn; rw [if_pos hn]; exact p
      · rename_i hn; rw [if_neg hn]; intro hr; exact p (Or.inl (by simp))

theorem Pend.widen {act : Bool} {lo lo' hi hi' : Nat} (h1 : lo' ≤ lo) (h2 : hi ≤ hi') {ops : Array Oper} {tm : Tr AV} {o : Oper} {d β : Nat} (p : Pend P μ h act lo hi ops tm o d β) : Pend P μ h act lo' hi' ops tm o d β := by
  unfold Pend at p ⊢
  cases hw : awanted ops tm o with
  | none => rw [hw] at p; exact p
  | some b =>
    rw [hw] at p
    cases b with
    | false => exact p
    | true =>
      simp only at p ⊢
      split at p
      · rename_i hn; rw [if_pos hn]
        obtain ⟨ob, a1, a2, a3, a4, a5⟩ := p
        exact ⟨ob, a1, a2, a3, by omega, by omega⟩
      · rename_i hn; rw [if_neg hn]; exact p

theorem DReg.widen {act : Bool} {lo lo' hi hi' : Nat} (h1 : lo' ≤ lo) (h2 : hi ≤ hi') {ops : Array Oper} {plan restA : List (Nat × List Nat)} {β : Nat → Nat} {restC : List Nat} {tm : Tr AV} {tmps : Array Value}
    (r : DReg P μ I h act lo hi ops plan β restA restC tm tmps) : DReg P μ I h act lo' hi' ops plan β restA restC tm tmps :=
  ⟨r.ok, r.pre, r.lin, r.sub, fun i hi hg => let ⟨o, d, a1, a2, a3, a5, a4⟩ := r.pend i hi hg; ⟨o, d, a1, a2, a3, a5, a4.widen h1 h2⟩, r.inj, r.tms⟩

theorem TodoRel.widen {act : Bool} {lo lo' hi hi' : Nat} (h1 : lo' ≤ lo) (h2 : hi ≤ hi') {todo : List AItem} {tm : Tr AV} {todoc : List Item} {tmps : Array Value} (r : TodoRel P μ I h act lo hi todo tm todoc tmps) :
    TodoRel P μ I h act lo' hi' todo tm todoc tmps := by
  cases r with
  | plain a b => exact .plain a b
  | drawn a b c => exact .drawn a (b.widen h1 h2) c
theorem StRel.widen {act : Bool} {lo lo' hi hi' : Nat} (h1 : lo' ≤ lo) (h2 : hi ≤ hi') {m : AMode} {todo : List AItem} {tm : Tr AV} {c : Frame} (r : StRel P μ I h act lo hi m todo tm c) : StRel P μ I h act lo' hi' m todo tm c := by
  cases r with
  | run a b => exact .run a (b.widen h1 h2)
  | ret a b => exact .ret a b
  | pan a b c => exact .pan a b c
theorem FRel.widen {act : Bool} {lo lo' hi hi' : Nat} (h1 : lo' ≤ lo) (h2 : hi ≤ hi') {f : AFrame} {c : Frame} (r : FRel P μ I h act lo hi f c) : FRel P μ I h act lo' hi' f c :=
  ⟨r.fn, r.has, r.kind, r.round, r.defers, r.size, r.st.widen h1 h2⟩

/-! ### Temporaries -/
theorem TRel.set {tm : Tr AV} {tmps : Array Value} (r : TRel μ I tm tmps) {d : Nat} {v : AV} {u : Value} (hd : d < tmps.size) (q : VRel μ I v u) : TRel μ I (tm.set d v) (tmps.setIfInBounds d u) := by
  intro t x e
  rw [Tr.get_set] at e
  split at e
  · rename_i ht; subst ht; cases e
    simpa [Array.getD_eq_getD_getElem?, hd] using q
  · rename_i ht
    have := r t x e
    rw [Array.getD_eq_getD_getElem?] at this ⊢
    rw [Array.getElem?_setIfInBounds_ne (Ne.symm ht)]
    exact this

theorem evalOp_rel {tm : Tr AV} {tmps : Array Value} {x : Operand} {ds : List Deferred} (hx : ∀ t, x = .tmp t → ∀ v, tm.get t = some v → VRel μ I v (tmps.getD t undef)) : VRel μ I (evalOp tm x) (Act.eval { tmps, defers := ds } x) := by
  cases x with
  | tmp t =>
    simp only [evalOp, tmGet, Act.eval]
    cases e : tm.get t with
    | none => exact .bad _
    | some v => exact hx t rfl v e
  | const v => exact ofV_rel v
  | global g => exact GlobI.ok μ g
  | func f => exact .func (by simp; exact .nil) (by simp; exact .nil)

theorem tmSet_spec {nt : Nat} {tm tm' : Tr AV} {d : Option Tmp} {v : AV} (e : tmSet nt tm d v = some tm') : (d = none ∧ tm' = tm) ∨ ∃ t, d = some t ∧ t < nt ∧ tm' = tm.set t v := by
  cases d with
  | none => simp [tmSet] at e; exact .inl ⟨rfl, e.symm⟩
  | some t =>
    simp only [tmSet] at e
    obtain ⟨h1, e⟩ := cond_some e
    simp at e
    exact .inr ⟨t, rfl, blt_lt h1, e.symm⟩

/-- A guard, on both sides. -/
theorem awanted_rel {ops : Array Oper} {tm : Tr AV} {tmps : Array Value} {o : Oper} {b : Bool} (e : awanted ops tm o = some b) (hx : ∀ t ∈ guardTmp ops o, ∀ v, tm.get t = some v → VRel μ I v (tmps.getD t undef)) :
    Region.wanted o (yielded ops tmps) = b := by
  unfold awanted at e
  unfold Region.wanted
  cases hg : o.guard with
  | none => rw [hg] at e; simp at e; simp [e]
  | some jw =>
    obtain ⟨j, want⟩ := jw
    rw [hg] at e
    simp only at e ⊢
    cases hj : ops[j]? with
    | none => rw [hj] at e; cases e
    | some g =>
      rw [hj] at e
      simp only at e
      cases hd : g.dst with
      | none => rw [hd] at e; cases e
      | some d =>
        rw [hd] at e
        simp only at e
        have hmem : d ∈ guardTmp ops o := by simp [guardTmp, hg, hj, hd]
        have hx := hx d hmem
        simp only [tmGet] at e
        unfold yielded
        simp only [hj, hd, Option.bind_some]
        cases hv : tm.get d with
        | none => rw [hv] at e; simp at e
        | some v =>
          rw [hv] at e
          have hr := hx v hv
          rw [Array.getD_eq_getD_getElem?] at hr
          cases v <;> simp only at e <;> first | (cases e; done) | skip
          case bool q =>
            cases hq : tmps[d]? with
            | none => rw [hq] at hr; simp [undef] at hr; cases hr
            | some u =>
              rw [hq] at hr
              simp at hr e
              cases hr
              subst e
              cases q <;> cases want <;> rfl
          case tuple l =>
            cases l with
            | cons _ _ => cases e
            | nil =>
              simp at e
              subst e
              cases hq : tmps[d]? with
              | none => simp
              | some u =>
                rw [hq] at hr
                simp at hr
                cases hr
                simp

end
end Go.Abs
namespace Go.Abs
open Go.RowKit (Below)
set_option linter.unusedSimpArgs false
set_option linter.unusedVariables false
set_option linter.unusedSectionVars false
section
variable {P : Program} {μ μ' : Mu} {I : Imm} [GlobI I] {h h' : Heap} {w0 w : World}

theorem PlanOk.linPlan {ops : Array Oper} {plan : List (Nat × List Nat)} (k : PlanOk ops plan) : Lin ops (plan.map (·.1)) := by
  refine ⟨k.nodup, k.lt, fun a i b e o ho p hp => ?_⟩
  have : ∃ pre c post, plan = pre ++ (i, c) :: post ∧ pre.map (·.1) = a := by
    obtain ⟨l1, l2, h1, h2, h3⟩ := List.map_eq_append_iff.1 e
    obtain ⟨x, l3, h4, h5, h6⟩ := List.map_eq_cons_iff.1 h3
    obtain ⟨x1, x2⟩ := x
    simp at h5
    subst h5
    exact ⟨l1, x2, l3, by rw [h1, h4], h2⟩
  obtain ⟨pre, c, post, h1, h2⟩ := this
  rw [← h2]
  exact (k.ord pre i c post h1 o ho).1 p hp

theorem alight_new {tm : Tr AV} {o : Oper} {v : AV} (e : alight P h tm o = some v) : isNew o = false := by
  obtain ⟨dst, op, type, pos, after, guard⟩ := o
  cases op <;> first | rfl | (simp [alight] at e; done)
theorem afresh_new {b : Nat} {tm : Tr AV} {o : Oper} {x : AObj × AV} (e : afresh P b tm o = some x) : isNew o = true := by
  obtain ⟨dst, op, type, pos, after, guard⟩ := o
  cases op <;> first | rfl | (simp [afresh] at e; done)

theorem awanted_congr {ops : Array Oper} {tm tm' : Tr AV} {o : Oper} (e : ∀ t ∈ guardTmp ops o, tmGet tm' t = tmGet tm t) : awanted ops tm' o = awanted ops tm o := by
  unfold awanted
  cases hg : o.guard with
  | none => rfl
  | some jw =>
    obtain ⟨j, want⟩ := jw
    simp only
    cases hj : ops[j]? with
    | none => rfl
    | some g =>
      simp only
      cases hd : g.dst with
      | none => rfl
      | some d =>
        simp only
        rw [e d (by simp [guardTmp, hg, hj, hd])]

theorem tmpsOf_mem {l : List Operand} {t : Nat} (h : Operand.tmp t ∈ l) : t ∈ tmpsOf l := by
  unfold tmpsOf
  rw [List.mem_filterMap]
  exact ⟨_, h, rfl⟩

theorem eval_congr {ops : Array Oper} {tm tm' : Tr AV} {o : Oper} (e : ∀ t ∈ looks ops o, tmGet tm' t = tmGet tm t) : ∀ x ∈ o.op.operands.toList, evalOp tm' x = evalOp tm x := by
  intro x hx
  cases x with
  | tmp t => exact e t (by simp [looks]; left; exact tmpsOf_mem hx)
  | _ => rfl

/-- What is known of a late operation does not hang on temporaries that it does not name. -/
theorem Pend.congr {act : Bool} {lo hi : Nat} {ops : Array Oper} {tm tm' : Tr AV} {o : Oper} {d β : Nat} (e : ∀ t ∈ looks ops o, tmGet tm' t = tmGet tm t) (ed : tmGet tm' d = tmGet tm d)
    (p : Pend P μ h act lo hi ops tm o d β) : Pend P μ h act lo hi ops tm' o d β := by
  unfold Pend at p ⊢
  rw [awanted_congr (tm := tm) (fun t ht => e t (by simp [looks, ht]))]
  have ee := eval_congr e
  cases hw : awanted ops tm o with
  | none => rw [hw] at p; exact p
  | some b =>
    rw [hw] at p
    cases b with
    | false => simp only at p ⊢; rw [ed]; exact p
    | true =>
      simp only at p ⊢
      rw [ed, alight_congr ee, afresh_congr (tm := tm') (tm' := tm) ee]
      exact p

theorem again_spec {ops : Array Oper} {tm : Tr AV} : ∀ {l : List Nat}, again P h tm ops l = true → ∀ k ∈ l, ∀ o d, ops[k]? = some o → o.dst = some d → awanted ops tm o = some true → alight P h tm o = some (tmGet tm d)
  | [], _, k, hk, _, _, _, _, _ => by cases hk
  | i :: l, e, k, hk, o, d, ho, hd, hw => by
    unfold again at e
    cases hi : ops[i]? with
    | none => rw [hi] at e; cases e
    | some o' =>
      rw [hi] at e
      simp only at e
      cases hd' : o'.dst with
      | none => rw [hd'] at e; cases e
      | some d' =>
        rw [hd'] at e
        simp only at e
        rcases List.mem_cons.1 hk with rfl | hk
        · rw [ho] at hi; cases hi
          rw [hd] at hd'; cases hd'
          rw [hw] at e
          simp only at e
          cases ha : alight P h tm o with
          | none => rw [ha] at e; cases e
          | some v =>
            rw [ha] at e
            simp only [Bool.and_eq_true] at e
            rw [AV.beq_eq _ e.1]
        · have : again P h tm ops l = true := by
            cases hw' : awanted ops tm o' with
            | none => rw [hw'] at e; cases e
            | some b =>
              rw [hw'] at e
              cases b with
              | false => exact e
              | true =>
                simp only at e
                cases ha : alight P h tm o' with
                | none => rw [ha] at e; cases e
                | some v => rw [ha] at e; simp only [Bool.and_eq_true] at e; exact e.2
          exact again_spec this k hk o d ho hd hw

theorem drop_cons {α : Type} {l : List α} {i : Nat} {x : α} {r : List α} (e : l.drop i = x :: r) : l[i]? = some x ∧ l.drop (i + 1) = r ∧ i < l.length := by
  have h0 : l[i]? = some x := by
    have : (l.drop i)[0]? = some x := by rw [e]; rfl
    simpa using this
  refine ⟨h0, ?_, (List.getElem?_eq_some_iff.1 h0).1⟩
  have : l.drop (i + 1) = (l.drop i).drop 1 := by simp
  rw [this, e]; rfl

theorem range'_step {i n : Nat} (h : i < n) : List.range' i (n - i) = i :: List.range' (i + 1) (n - (i + 1)) := by
  have : n - i = (n - (i + 1)) + 1 := by omega
  rw [this, List.range'_succ]

/-- In a plan: a late operation that is done stands apart from one that is done behind it. -/
theorem pend_apart {ops : Array Oper} {plan : List (Nat × List Nat)} (ok : PlanOk ops plan) {pre : List (Nat × List Nat)} {i : Nat} {c : List Nat} {rest : List (Nat × List Nat)} (hp : plan = pre ++ (i, c) :: rest)
    {k : Nat} (hk : k < ops.size) (hne : k ≠ i) (hg : Gone rest k) : k ∈ pre.map (·.1) ∧ ¬ Anc ops i k := by
  have hmem := ok.all k hk
  have hk1 : k ∈ pre.map (·.1) := by
    rw [hp] at hmem
    simp only [List.map_append, List.map_cons, List.mem_append, List.mem_cons] at hmem
    rcases hmem with q | q | q
    · exact q
    · exact absurd q hne
    · obtain ⟨x, hx, rfl⟩ := List.mem_map.1 q
      exact absurd rfl (hg x hx)
  refine ⟨hk1, fun hc => ?_⟩
  obtain ⟨a, b, hab⟩ := List.append_of_mem hk1
  refine ok.linPlan.not_anc (a := a) (b := b ++ i :: rest.map (·.1)) (i := k) (j := i) ?_ (by simp) hc
  rw [hp]
  simp only [List.map_append, List.map_cons, hab]
  simp

theorem finish_fn (c : Frame) (u : Value) : (c.finish u).fn = c.fn := by unfold Frame.finish; split <;> rfl
theorem finish_kind (c : Frame) (u : Value) : (c.finish u).kind = c.kind := by unfold Frame.finish; split <;> rfl
theorem finish_round (c : Frame) (u : Value) : (c.finish u).roundOf = c.roundOf := by unfold Frame.finish; split <;> rfl

/-- An operation that was under way has come to its end. -/
theorem finish_sim {lo hi : Nat} {f f' : AFrame} {c : Frame} {v : AV} {u : Value} (e : afinish P h f v = some f') (hm : f.mode = .run) (r : FRel P μ I h false lo hi f c) (q : VRel μ I v u) :
    FRel P μ I h true lo hi f' (c.finish u) := by
  obtain ⟨r1, r2, r3, r4, r5, r6, r7⟩ := r
  obtain ⟨fn, nt, tm, todo, defers, mode, deferred, roundOf⟩ := f
  simp only at hm r1 r2 r3 r4 r5 r6 r7
  subst hm
  cases r7 with
  | run hmode ht =>
  unfold afinish at e
  simp only at e
  split at e
  · -- a region in the order of the text
    rename_i ops i o rest k
    cases hs : tmSet nt tm o.dst v with
    | none => rw [hs] at e; cases e
    | some tm' =>
      rw [hs] at e
      simp at e
      subst e
      generalize hct : c.todo = ct at ht
      generalize htm : c.tmps = tmps at ht r6
      cases ht with
      | plain hi ht =>
        cases hi with
        | cons h1 h2 =>
          rename_i item kc
          generalize hrest : o :: rest = ors at h1
          cases h1 with
          | reg =>
            obtain ⟨d1, d2, d3⟩ := drop_cons hrest.symm
            have d3' : i < ops.size := by simpa using d3
            have d1' : ops[i]? = some o := by simpa using d1
            rw [range'_step d3'] at hct
            refine ⟨(finish_fn c u).trans r1, r2, (finish_kind c u).trans r3, by rw [finish_round]; exact r4, ?_, ?_, ?_⟩
            · simp [Frame.finish, hct, d1', r5]
            · simp only [Frame.finish, hct, d1', Option.bind_some]
              cases o.dst <;> simp [htm, r6]
            · refine .run (by simp [Frame.finish, hct, hmode]) (.plain ?_ ?_)
              · simp only [Frame.finish, hct]
                rw [← d2]
                exact .cons (.reg ops (i + 1)) h2
              · simp only [Frame.finish, hct, d1', Option.bind_some]
                rcases tmSet_spec hs with ⟨z, rfl⟩ | ⟨t, z, hlt, rfl⟩
                · rw [z]; rw [← htm] at ht; exact ht
                · rw [z, htm]; exact ht.set (by rw [r6]; exact hlt) q
  · -- a region that draws its order
    rename_i ops i chk rest k
    cases ho : ops[i]? with
    | none => rw [ho] at e; cases e
    | some o =>
      rw [ho] at e
      simp only at e
      cases hs : tmSet nt tm o.dst v with
      | none => rw [hs] at e; cases e
      | some tm' =>
        rw [hs] at e
        simp only at e
        obtain ⟨hag, e⟩ := cond_some e
        simp at e
        subst e
        generalize hct : c.todo = ct at ht
        generalize htm : c.tmps = tmps at ht r6
        cases ht with
        | plain hi ht => cases hi with | cons h1 h2 => cases h1
        | drawn hk hd hal =>
          rename_i plan β restC kc
          obtain ⟨i', c', ra, rc, o', q1, q2, q3, q4⟩ := hal rfl
          cases q1
          subst q2
          rw [ho] at q3
          cases q3
          obtain ⟨ok, ⟨pre, hpre⟩, ⟨doneC, hlin⟩, hsub, hpend, hinj, htms⟩ := hd
          have hord := ok.ord pre i chk rest hpre o ho
          obtain ⟨_, _, o3⟩ := hord
          obtain ⟨o4, o5, o6⟩ := o3 q4
          have hnd : ∀ k ∈ rc, k ≠ i := by
            intro k hk hki
            subst hki
            have := hlin.nodup
            rw [List.nodup_append] at this
            exact (List.nodup_cons.1 this.2.1).1 hk
          have hgone : ∀ k ∈ rc, Gone rest k → Gone ((i, chk) :: rest) k := by
            intro k hk hg x hx
            rcases List.mem_cons.1 hx with rfl | hx
            · exact fun q => hnd k hk q.symm
            · exact hg x hx
          have hlt : ∀ k ∈ rc, k < ops.size := fun k hk => hlin.lt k (by simp [hk])
          -- what a pending operation names is not written
          have hapart : ∀ k ∈ rc, Gone rest k → ∀ o', ops[k]? = some o' → late o' = true → ∀ t ∈ names ops o', tmGet tm' t = tmGet tm t := by
            intro k hk hg o' ho' hl t ht
            rcases tmSet_spec hs with ⟨_, rfl⟩ | ⟨d, hd, _, rfl⟩
            · rfl
            · rw [tmGet_set]
              have : t ≠ d := by
                intro z
                subst z
                rcases o6 t hd k o' ho' hl ht with y | y
                · exact (pend_apart ok hpre (hlt k hk) (hnd k hk) hg).2 y
                · exact hlin.not_anc rfl hk y
              rw [if_neg this]
          have hdst : ∀ {o' : Oper} {d : Nat}, o'.dst = some d → d ∈ names ops o' := by
            intro o' d hd; simp [names, hd]
          have hlk : ∀ {o' : Oper} {t : Nat}, t ∈ looks ops o' → t ∈ names ops o' := by
            intro o' t ht; simp [names, ht]
          have haw : ∀ k ∈ rc, Gone rest k → ∀ o', ops[k]? = some o' → late o' = true → awanted ops tm' o' = awanted ops tm o' := by
            intro k hk hg o' ho' hl
            exact awanted_congr fun t ht => hapart k hk hg o' ho' hl t (hlk (by simp [looks, ht]))
          have hsz : (c.finish u).tmps.size = c.tmps.size := by
            simp only [Frame.finish, hct, ho, Option.bind_some]
            cases o.dst <;> simp
          have hD : DReg P μ I h true lo hi ops plan β rest rc tm' (c.finish u).tmps := by
            refine ⟨ok, ⟨pre ++ [(i, chk)], by rw [hpre]; simp⟩, ⟨doneC ++ [i], by simpa using hlin⟩, ?_, ?_, ?_, ?_⟩
            · intro x hx
              have h1 := hsub x (List.mem_cons_of_mem _ hx)
              rcases List.mem_cons.1 h1 with h1 | h1
              · have hn := ok.nodup
                rw [hpre] at hn
                simp only [List.map_append, List.map_cons] at hn
                rw [List.nodup_append] at hn
                exact absurd (List.mem_map.2 ⟨x, hx, h1⟩) (List.nodup_cons.1 hn.2.1).1
              · exact h1
            · intro k hk hg
              obtain ⟨o', d, p1, p2, p3, p4, p5⟩ := hpend k (List.mem_cons_of_mem _ hk) (hgone k hk hg)
              refine ⟨o', d, p1, p2, p3, by rw [hsz, htm]; exact p4, ?_⟩
              have hap := hapart k hk hg o' p1 p3
              have p6 : Pend P μ h false lo hi ops tm' o' d (β k) := p5.congr (fun t ht => hap t (hlk ht)) (hap d (hdst p2))
              unfold Pend at p6 ⊢
              cases hw : awanted ops tm' o' with
              | none => rw [hw] at p6; exact p6
              | some b =>
                rw [hw] at p6
                cases b with
                | false => exact p6
                | true =>
                  simp only at p6 ⊢
                  split at p6
                  · rename_i hn; rw [if_pos hn]; exact p6
                  · rename_i hn
                    rw [if_neg hn]
                    intro _
                    cases hr : reads o' with
                    | false => exact p6 (.inr hr)
                    | true =>
                      obtain ⟨z1, z2⟩ := pend_apart ok hpre (hlt k hk) (hnd k hk) hg
                      rcases o5 k z1 o' p1 p3 hr with y | y
                      · exact absurd y (hlin.not_anc rfl hk)
                      · exact again_spec hag k y o' d p1 p2 hw
            · intro k1 hk1 k2 hk2 g1 g2 o1 o2 e1 e2 n1 n2 a1 a2 hb
              have l1 : late o1 = true := by
                obtain ⟨_, _, p1, _, p3, _⟩ := hpend k1 (List.mem_cons_of_mem _ hk1) (hgone k1 hk1 g1); rw [e1] at p1; cases p1; exact p3
              have l2 : late o2 = true := by
                obtain ⟨_, _, p1, _, p3, _⟩ := hpend k2 (List.mem_cons_of_mem _ hk2) (hgone k2 hk2 g2); rw [e2] at p1; cases p1; exact p3
              rw [haw k1 hk1 g1 o1 e1 l1] at a1
              rw [haw k2 hk2 g2 o2 e2 l2] at a2
              exact hinj k1 (List.mem_cons_of_mem _ hk1) k2 (List.mem_cons_of_mem _ hk2) (hgone _ hk1 g1) (hgone _ hk2 g2) o1 o2 e1 e2 n1 n2 a1 a2 hb
            · intro t x ht hno
              simp only [Frame.finish, hct, ho, Option.bind_some]
              have old : tm.get t = some x → VRel μ I x (tmps.getD t undef) := fun hx => htms t x hx fun k hk hg o' ho' => by
                rcases List.mem_cons.1 hk with rfl | hk
                · exact absurd rfl (hg _ (List.mem_cons_self))
                · exact hno k hk (fun x hx => hg x (List.mem_cons_of_mem _ hx)) o' ho'
              rcases tmSet_spec hs with ⟨z, rfl⟩ | ⟨d, z, hlt', rfl⟩
              · rw [z, htm]; exact old ht
              · rw [z, htm]
                rw [Tr.get_set] at ht
                split at ht
                · rename_i y; subst y; cases ht
                  have : t < tmps.size := by rw [r6]; exact hlt'
                  simpa [Array.getD_eq_getD_getElem?, this] using q
                · rename_i y
                  have := old ht
                  rw [Array.getD_eq_getD_getElem?] at this ⊢
                  rw [Array.getElem?_setIfInBounds_ne (Ne.symm y)]
                  exact this
          refine ⟨(finish_fn c u).trans r1, r2, (finish_kind c u).trans r3, by rw [finish_round]; exact r4, ?_, ?_, ?_⟩
          · simp [Frame.finish, hct, ho, r5]
          · rw [hsz, htm]; exact r6
          · refine .run (by simp [Frame.finish, hct, hmode]) ?_
            have : (c.finish u).todo = .inRegion ops rc :: kc := by simp [Frame.finish, hct]
            rw [this]
            exact .drawn hk hD (by simp)
  · -- the end of a loop over a function
    rename_i l k
    simp at e
    subst e
    generalize hct : c.todo = ct at ht
    generalize htm : c.tmps = tmps at ht r6
    cases ht with
    | plain hi ht =>
      cases hi with
      | cons h1 h2 =>
        cases h1 with
        | inRangeFunc hl =>
          refine ⟨(finish_fn c u).trans r1, r2, (finish_kind c u).trans r3, by rw [finish_round]; exact r4, ?_, ?_, ?_⟩
          · simp [Frame.finish, hct, r5]
          · simp [Frame.finish, hct, htm, r6]
          · refine .run (by simp [Frame.finish, hct, hmode]) (.plain ?_ ?_)
            · simp only [Frame.finish, hct]
              exact .cons (.endRangeFunc hl) h2
            · simp only [Frame.finish, hct, htm]
              exact ht
  · cases e

end
end Go.Abs
