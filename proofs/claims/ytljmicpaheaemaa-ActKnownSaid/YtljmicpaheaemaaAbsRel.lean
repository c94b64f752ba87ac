/- How the abstract machine's values, heap and frames stand to the model's: the relations, and how they are kept. -/
import Derived.Test.YtljmicpaheaemaaAbsDef
import Derived.Laws.Sem
import Derived.Below
namespace Go.Abs
open Go.RowKit (Below)

/-! ### Sparse tables -/
theorem beq_self' (n : Nat) : Nat.beq n n = true := by simp
theorem beq_tt {a b : Nat} (h : Nat.beq a b = true) : a = b := Nat.eq_of_beq_eq_true h
theorem beq_ff {a b : Nat} (h : Nat.beq a b = false) : a ≠ b := Nat.ne_of_beq_eq_false h
theorem half_inj {k m : Nat} (h1 : k % 2 = m % 2) (h2 : k / 2 = m / 2) : k = m := by omega

theorem Heap.get_set (h : Heap) (b c : Nat) (o : AObj) : (h.set b o).get c = if c = b then some o else h.get c := Tr.get_set _ _ _ _
theorem Heap.get_kill (h : Heap) (b c : Nat) : (h.kill b).get c = if c = b then none else h.get c := Tr.get_erase _ _ _
theorem Heap.get_new (h : Heap) (c : Nat) (o : AObj) : (h.new o).get c = if c = h.next then some o else h.get c := Tr.get_set _ _ _ _

/-! ### Values -/
abbrev Mu := Nat → Option (Nat × Nat × Nat)
abbrev Imm := Nat → Nat → Option Value

mutual
inductive VRel (μ : Mu) (I : Imm) : AV → Value → Prop
  | bad (v : Value) : VRel μ I .bad v
  | bool (b : Bool) : VRel μ I (.bool b) (.bool b)
  | int (k : IntKind) (n : Int) : VRel μ I (.int k n) (.int k n)
  | str (s : ByteArray) : VRel μ I (.str s) (.string s)
  | nilp : VRel μ I .nilp (.pointer none)
  | ptr {b off B o N : Nat} : μ b = some (B, o, N) → VRel μ I (.ptr b off) (.pointer (some ⟨B, o + off, none⟩))
  | vptr {cs : List AV} {B o : Nat} : ICells μ I cs B o → VRel μ I (.vptr cs) (.pointer (some ⟨B, o, none⟩))
  | nils : VRel μ I .nils (.slice none 0 0)
  | slice {b off len sz cap B o N : Nat} : μ b = some (B, o, N) → len ≤ cap → o + off + cap * sz ≤ N → VRel μ I (.slice b off len sz) (.slice (some ⟨B, o + off, none⟩) len cap)
  | slice0 {b off sz B o N : Nat} {a : Addr} : μ b = some (B, o, N) → VRel μ I (.slice b off 0 sz) (.slice (some a) 0 0)
  | vslice {cs : List AV} {len sz cap B o : Nat} : ICells μ I cs B o → len ≤ cap → VRel μ I (.vslice cs len sz) (.slice (some ⟨B, o, none⟩) len cap)
  | vslice0 {cs : List AV} {sz : Nat} {a : Addr} : VRel μ I (.vslice cs 0 sz) (.slice (some a) 0 0)
  | nilm : VRel μ I .nilm (.map none)
  | map {b B o N : Nat} : μ b = some (B, o, N) → VRel μ I (.map b) (.map (some B))
  | nilf : VRel μ I .nilf .nilFunc
  | func {f : FuncId} {x y : List AV} {u v : Array Value} : VRels μ I x u.toList → VRels μ I y v.toList → VRel μ I (.func f x y) (.func (.func f) u v)
  | yieldf {l B o N : Nat} : μ l = some (B, o, N) → VRel μ I (.yieldf l) (.func (.yield B) #[] #[])
  | nili : VRel μ I .nili .nilIface
  | iface {t : TypeId} {x : AV} {u : Value} : VRel μ I x u → VRel μ I (.iface t x) (.iface t u)
  | agg {x : List AV} {u : Array Value} : VRels μ I x u.toList → VRel μ I (.agg x) (.agg u)
  | tuple {x : List AV} {u : Array Value} : VRels μ I x u.toList → VRel μ I (.tuple x) (.tuple u)
inductive VRels (μ : Mu) (I : Imm) : List AV → List Value → Prop
  | nil : VRels μ I [] []
  | cons {x : AV} {u : Value} {xs : List AV} {us : List Value} : VRel μ I x u → VRels μ I xs us → VRels μ I (x :: xs) (u :: us)
inductive ICells (μ : Mu) (I : Imm) : List AV → Nat → Nat → Prop
  | nil {B o : Nat} : ICells μ I [] B o
  | cons {x : AV} {u : Value} {xs : List AV} {B o : Nat} : I B o = some u → VRel μ I x u → ICells μ I xs B (o + 1) → ICells μ I (x :: xs) B o
end

/-- More blocks, more of memory that stays. -/
structure Ext (μ μ' : Mu) (I I' : Imm) : Prop where
  mu : ∀ b x, μ b = some x → μ' b = some x
  imm : ∀ B o v, I B o = some v → I' B o = some v

theorem Ext.refl (μ : Mu) (I : Imm) : Ext μ μ I I := ⟨fun _ _ h => h, fun _ _ _ h => h⟩
theorem Ext.trans {a b c : Mu} {i j k : Imm} (h : Ext a b i j) (g : Ext b c j k) : Ext a c i k :=
  ⟨fun x y e => g.mu x y (h.mu x y e), fun x y z e => g.imm x y z (h.imm x y z e)⟩

mutual
theorem VRel.mono {μ μ' : Mu} {I I' : Imm} (h : Ext μ μ' I I') : ∀ {x : AV} {u : Value}, VRel μ I x u → VRel μ' I' x u
  | _, _, .bad v => .bad v
  | _, _, .bool b => .bool b
  | _, _, .int k n => .int k n
  | _, _, .str s => .str s
  | _, _, .nilp => .nilp
  | _, _, .ptr e => .ptr (h.mu _ _ e)
  | _, _, .vptr e => .vptr (ICells.mono h e)
  | _, _, .nils => .nils
  | _, _, .slice e a b => .slice (h.mu _ _ e) a b
  | _, _, .slice0 e => .slice0 (h.mu _ _ e)
  | _, _, .vslice e a => .vslice (ICells.mono h e) a
  | _, _, .vslice0 => .vslice0
  | _, _, .nilm => .nilm
  | _, _, .map e => .map (h.mu _ _ e)
  | _, _, .nilf => .nilf
  | _, _, .func a b => .func (VRels.mono h a) (VRels.mono h b)
  | _, _, .yieldf e => .yieldf (h.mu _ _ e)
  | _, _, .nili => .nili
  | _, _, .iface a => .iface (VRel.mono h a)
  | _, _, .agg a => .agg (VRels.mono h a)
  | _, _, .tuple a => .tuple (VRels.mono h a)
theorem VRels.mono {μ μ' : Mu} {I I' : Imm} (h : Ext μ μ' I I') : ∀ {x : List AV} {u : List Value}, VRels μ I x u → VRels μ' I' x u
  | _, _, .nil => .nil
  | _, _, .cons a b => .cons (VRel.mono h a) (VRels.mono h b)
theorem ICells.mono {μ μ' : Mu} {I I' : Imm} (h : Ext μ μ' I I') : ∀ {x : List AV} {B o : Nat}, ICells μ I x B o → ICells μ' I' x B o
  | _, _, _, .nil => .nil
  | _, _, _, .cons e a b => .cons (h.imm _ _ _ e) (VRel.mono h a) (ICells.mono h b)
end

section
variable {μ : Mu} {I : Imm}

theorem VRels.length {x : List AV} {u : List Value} (h : VRels μ I x u) : x.length = u.length := by
  induction x generalizing u with
  | nil => cases h; rfl
  | cons a xs ih => cases h with | cons _ h => simp [ih h]

theorem VRels.get {x : List AV} {u : List Value} (h : VRels μ I x u) : ∀ {i : Nat} {a : AV}, x[i]? = some a → ∃ v, u[i]? = some v ∧ VRel μ I a v := by
  induction x generalizing u with
  | nil => intro i a e; simp at e
  | cons y xs ih =>
    intro i a e
    cases h with
    | cons h1 h2 =>
      cases i with
      | zero => simp at e; subst e; exact ⟨_, rfl, h1⟩
      | succ i => simp at e; obtain ⟨v, hv, hr⟩ := ih h2 e; exact ⟨v, by simpa using hv, hr⟩

theorem VRels.of_get : ∀ {x : List AV} {u : List Value}, x.length = u.length → (∀ (i : Nat) (a : AV) (v : Value), x[i]? = some a → u[i]? = some v → VRel μ I a v) → VRels μ I x u
  | [], [], _, _ => .nil
  | a :: x, v :: u, hl, h => .cons (h 0 a v rfl rfl) (VRels.of_get (by simpa using hl) fun i a v e f => h (i + 1) a v (by simpa using e) (by simpa using f))
  | [], _ :: _, hl, _ => by simp at hl
  | _ :: _, [], hl, _ => by simp at hl

theorem VRels.append {x y : List AV} {u v : List Value} (h : VRels μ I x u) (g : VRels μ I y v) : VRels μ I (x ++ y) (u ++ v) := by
  induction x generalizing u with
  | nil => cases h; exact g
  | cons a xs ih => cases h with | cons h1 h2 => exact .cons h1 (ih h2)

theorem VRels.take {x : List AV} {u : List Value} (h : VRels μ I x u) (n : Nat) : VRels μ I (x.take n) (u.take n) := by
  induction n generalizing x u with
  | zero => exact .nil
  | succ n ih => cases h with
    | nil => exact .nil
    | cons a b => exact .cons a (ih b)

theorem VRels.drop {x : List AV} {u : List Value} (h : VRels μ I x u) (n : Nat) : VRels μ I (x.drop n) (u.drop n) := by
  induction n generalizing x u with
  | zero => exact h
  | succ n ih => cases h with
    | nil => exact .nil
    | cons a b => exact ih b

theorem VRels.map {f : Operand → AV} {g : Operand → Value} : ∀ {l : List Operand}, (∀ x ∈ l, VRel μ I (f x) (g x)) → VRels μ I (l.map f) (l.map g)
  | [], _ => .nil
  | x :: l, h => .cons (h x (by simp)) (VRels.map fun y hy => h y (by simp [hy]))

/-- A related value that lies in one cell does so there too. -/
theorem VRel.oneCell {x : AV} {u : Value} (h : VRel μ I x u) (h1 : x.one = true) : u.oneCell' = true := by
  cases h <;> first | rfl | simp [AV.one] at h1

theorem VRels.oneCell {x : List AV} {u : List Value} (h : VRels μ I x u) (h1 : x.all AV.one = true) : ∀ v ∈ u, v.oneCell' = true := by
  induction x generalizing u with
  | nil => cases h; intro v hv; cases hv
  | cons a xs ih =>
    cases h with
    | cons h2 h3 =>
      simp only [List.all_cons, Bool.and_eq_true] at h1
      intro v hv
      rcases List.mem_cons.1 hv with rfl | hv
      · exact h2.oneCell h1.1
      · exact ih h3 h1.2 v hv

/-- The cells of a value that is not unknown. -/
theorem VRel.cells {x : AV} {u : Value} (h : VRel μ I x u) (hb : x ≠ .bad) : VRels μ I x.cells u.cells.toList := by
  cases h
  case bad => exact absurd rfl hb
  case agg a => exact a
  all_goals exact .cons (by first | assumption | constructor <;> assumption) .nil

theorem ICells.get {cs : List AV} {B o : Nat} (h : ICells μ I cs B o) : ∀ {i : Nat} {a : AV}, cs[i]? = some a → ∃ v, I B (o + i) = some v ∧ VRel μ I a v := by
  induction cs generalizing o with
  | nil => intro i a e; simp at e
  | cons y xs ih =>
    intro i a e
    cases h with
    | cons h0 h1 h2 =>
      cases i with
      | zero => simp at e; subst e; exact ⟨_, h0, h1⟩
      | succ i =>
        simp at e
        obtain ⟨v, hv, hr⟩ := ih h2 e
        exact ⟨v, by rw [show o + (i + 1) = o + 1 + i from by omega]; exact hv, hr⟩

theorem ICells.drop {cs : List AV} {B o : Nat} (h : ICells μ I cs B o) : ∀ n, n ≤ cs.length → ICells μ I (cs.drop n) B (o + n) := by
  intro n
  induction n generalizing cs o with
  | zero => intro _; exact h
  | succ n ih =>
    intro hn
    cases h with
    | nil => simp at hn
    | cons h0 h1 h2 =>
      have := ih h2 (by simpa using hn)
      rw [show o + (n + 1) = o + 1 + n from by omega]
      exact this

theorem ofC_rel : ∀ v : Value, VRel μ I (ofC v) v := by
  intro v
  cases v
  case pointer a => cases a <;> constructor
  case slice a l c =>
    cases a
    · cases l
      · cases c <;> constructor
      · constructor
    · constructor
  case map r => cases r <;> constructor
  all_goals constructor

theorem ofCs_rel : ∀ l : List Value, VRels μ I (l.map ofC) l
  | [] => .nil
  | v :: l => .cons (ofC_rel v) (ofCs_rel l)

theorem ofV_rel (v : Value) : VRel μ I (ofV v) v := by
  have h : VRel μ I (ofC v) v := ofC_rel v
  cases v
  case agg cs => exact .agg (ofCs_rel _)
  case tuple vs => exact .tuple (ofCs_rel _)
  all_goals exact h

end
end Go.Abs
