/- Texts of the claim: AbsRel, AbsOps, AbsOps2, AbsOps3, AbsOps4, AbsMap, AbsOps5, AbsHeap, AbsHeavy, AbsAppend, AbsMap2, AbsPlan, AbsSim, AbsFrame, AbsRun, AbsRun2, AbsCall, AbsMain. -/
import Derived.Test.YtildjgdhdcoojaaDoorZ01
import Derived.Laws.Sem
import Derived.Below
import Derived.Laws.StructEq
import Derived.IntWalk
import Derived.AtR
import Derived.RangeFuncRecord
set_option linter.unusedVariables false
set_option linter.unusedSimpArgs false
namespace Go.a9
open Go.RowKit (Below)
theorem beq_self' (n : Nat) : Nat.beq n n = true := by simp
theorem aq {a b : Nat} (h : Nat.beq a b = true) : a = b := Nat.eq_of_beq_eq_true h
theorem Cc {a b : Nat} (h : Nat.beq a b = false) : a ≠ b := Nat.ne_of_beq_eq_false h
theorem ah.aP (h : ah) (b c : Nat) (o : fO) : (h.set b o).get c = if c = b then some o else h.get c := Tr.aP _ _ _ _
theorem ah.bO (h : ah) (b c : Nat) : (h.kill b).get c = if c = b then none else h.get c := Tr.get_erase _ _ _
theorem ah.aQ (h : ah) (c : Nat) (o : fO) : (h.new o).get c = if c = h.next then some o else h.get c := Tr.aP _ _ _ _
abbrev Mu := Nat -> Option (Nat × Nat × Nat)
abbrev fu := Nat -> Nat -> Option Value
mutual
inductive aG (μ : Mu) (I : fu) : AV -> Value -> Prop
 | bad (v : Value) : aG μ I .bad v
 | bool (b : Bool) : aG μ I (.bool b) (.bool b)
 | int (k : IntKind) (n : Int) : aG μ I (.int k n) (.int k n)
 | str (s : ByteArray) : aG μ I (.str s) (.string s)
 | fe : aG μ I .fe (.pointer none)
 | ptr {b off B o N : Nat} : μ b = some (B, o, N) -> aG μ I (.ptr b off) (.pointer (some ⟨B, o + off, none⟩))
 | fT {cs : List AV} {B o : Nat} : cF μ I cs B o -> aG μ I (.fT cs) (.pointer (some ⟨B, o, none⟩))
 | aV : aG μ I .aV (.slice none 0 0)
 | slice {b off len sz cap B o N : Nat} : μ b = some (B, o, N) -> len <= cap -> o + off + cap * sz <= N -> aG μ I (.slice b off len sz) (.slice (some ⟨B, o + off, none⟩) len cap)
 | jy {b off sz B o N : Nat} {a : Addr} : μ b = some (B, o, N) -> aG μ I (.slice b off 0 sz) (.slice (some a) 0 0)
 | bY {cs : List AV} {len sz cap B o : Nat} : cF μ I cs B o -> len <= cap -> aG μ I (.bY cs len sz) (.slice (some ⟨B, o, none⟩) len cap)
 | je {cs : List AV} {sz : Nat} {a : Addr} : aG μ I (.bY cs 0 sz) (.slice (some a) 0 0)
 | fK : aG μ I .fK (.map none)
 | map {b B o N : Nat} : μ b = some (B, o, N) -> aG μ I (.map b) (.map (some B))
 | fB : aG μ I .fB .nilFunc
 | func {f : FuncId} {x y : List AV} {u v : Array Value} : aL μ I x u.toList -> aL μ I y v.toList -> aG μ I (.func f x y) (.func (.func f) u v)
 | aF {l B o N : Nat} : μ l = some (B, o, N) -> aG μ I (.aF l) (.func (.yield B) #[] #[])
 | cW : aG μ I .cW .nilIface
 | iface {t : TypeId} {x : AV} {u : Value} : aG μ I x u -> aG μ I (.iface t x) (.iface t u)
 | agg {x : List AV} {u : Array Value} : aL μ I x u.toList -> aG μ I (.agg x) (.agg u)
 | tuple {x : List AV} {u : Array Value} : aL μ I x u.toList -> aG μ I (.tuple x) (.tuple u)
inductive aL (μ : Mu) (I : fu) : List AV -> List Value -> Prop
 | nil : aL μ I [] []
 | cons {x : AV} {u : Value} {xs : List AV} {us : List Value} : aG μ I x u -> aL μ I xs us -> aL μ I (x :: xs) (u :: us)
inductive cF (μ : Mu) (I : fu) : List AV -> Nat -> Nat -> Prop
 | nil {B o : Nat} : cF μ I [] B o
 | cons {x : AV} {u : Value} {xs : List AV} {B o : Nat} : I B o = some u -> aG μ I x u -> cF μ I xs B (o + 1) -> cF μ I (x :: xs) B o
end
class ig (I : fu) : Prop where
 ok : ∀ (μ : Mu) (g : Nat), aG μ I (gv g) (.pointer (some ⟨g, 0, none⟩))
structure Ext (μ μ' : Mu) (I I' : fu) : Prop where
 mu : ∀ b x, μ b = some x -> μ' b = some x
 wc : ∀ B o v, I B o = some v -> I' B o = some v
theorem Ext.refl (μ : Mu) (I : fu) : Ext μ μ I I := ⟨fun _ _ h => h, fun _ _ _ h => h⟩
theorem Ext.trans {a b c : Mu} {i j k : fu} (h : Ext a b i j) (g : Ext b c j k) : Ext a c i k :=
 ⟨fun x y e => g.mu x y (h.mu x y e), fun x y z e => g.wc x y z (h.wc x y z e)⟩
mutual
theorem aG.mono {μ μ' : Mu} {I I' : fu} (h : Ext μ μ' I I') : ∀ {x : AV} {u : Value}, aG μ I x u -> aG μ' I' x u
 | _, _, .bad v => .bad v
 | _, _, .bool b => .bool b
 | _, _, .int k n => .int k n
 | _, _, .str s => .str s
 | _, _, .fe => .fe
 | _, _, .ptr e => .ptr (h.mu _ _ e)
 | _, _, .fT e => .fT (cF.mono h e)
 | _, _, .aV => .aV
 | _, _, .slice e a b => .slice (h.mu _ _ e) a b
 | _, _, .jy e => .jy (h.mu _ _ e)
 | _, _, .bY e a => .bY (cF.mono h e) a
 | _, _, .je => .je
 | _, _, .fK => .fK
 | _, _, .map e => .map (h.mu _ _ e)
 | _, _, .fB => .fB
 | _, _, .func a b => .func (aL.mono h a) (aL.mono h b)
 | _, _, .aF e => .aF (h.mu _ _ e)
 | _, _, .cW => .cW
 | _, _, .iface a => .iface (aG.mono h a)
 | _, _, .agg a => .agg (aL.mono h a)
 | _, _, .tuple a => .tuple (aL.mono h a)
theorem aL.mono {μ μ' : Mu} {I I' : fu} (h : Ext μ μ' I I') : ∀ {x : List AV} {u : List Value}, aL μ I x u -> aL μ' I' x u
 | _, _, .nil => .nil
 | _, _, .cons a b => .cons (aG.mono h a) (aL.mono h b)
theorem cF.mono {μ μ' : Mu} {I I' : fu} (h : Ext μ μ' I I') : ∀ {x : List AV} {B o : Nat}, cF μ I x B o -> cF μ' I' x B o
 | _, _, _, .nil => .nil
 | _, _, _, .cons e a b => .cons (h.wc _ _ _ e) (aG.mono h a) (cF.mono h b)
end
section
variable {μ : Mu} {I : fu}
theorem aL.length {x : List AV} {u : List Value} (h : aL μ I x u) : x.length = u.length := by
 induction x generalizing u with
 | nil => cases h; rfl
 | cons a xs ih => cases h with | cons _ h => simp [ih h]
theorem aL.get {x : List AV} {u : List Value} (h : aL μ I x u) : ∀ {i : Nat} {a : AV}, x[i]? = some a -> ∃ v, u[i]? = some v /\ aG μ I a v := by
 induction x generalizing u with
 | nil => intro i a e; simp at e
 | cons y xs ih =>
  intro i a e
  cases h with
  | cons h1 h2 =>
   cases i with
   | zero => simp at e; subst e; exact ⟨_, rfl, h1⟩
   | succ i => simp at e; obtain ⟨v, hv, hr⟩ := ih h2 e; exact ⟨v, by simpa using hv, hr⟩
theorem aL.BA : ∀ {x : List AV} {u : List Value}, x.length = u.length -> (∀ (i : Nat) (a : AV) (v : Value), x[i]? = some a -> u[i]? = some v -> aG μ I a v) -> aL μ I x u
 | [], [], _, _ => .nil
 | a :: x, v :: u, hl, h => .cons (h 0 a v rfl rfl) (aL.BA (by simpa using hl) fun i a v e f => h (i + 1) a v (by simpa using e) (by simpa using f))
 | [], _ :: _, hl, _ => by simp at hl
 | _ :: _, [], hl, _ => by simp at hl
theorem aL.append {x y : List AV} {u v : List Value} (h : aL μ I x u) (g : aL μ I y v) : aL μ I (x ++ y) (u ++ v) := by
 induction x generalizing u with
 | nil => cases h; exact g
 | cons a xs ih => cases h with | cons h1 h2 => exact .cons h1 (ih h2)
theorem aL.take {x : List AV} {u : List Value} (h : aL μ I x u) (n : Nat) : aL μ I (x.take n) (u.take n) := by
 induction n generalizing x u with
 | zero => exact .nil
 | succ n ih => cases h with
  | nil => exact .nil
  | cons a b => exact .cons a (ih b)
theorem aL.drop {x : List AV} {u : List Value} (h : aL μ I x u) (n : Nat) : aL μ I (x.drop n) (u.drop n) := by
 induction n generalizing x u with
 | zero => exact h
 | succ n ih => cases h with
  | nil => exact .nil
  | cons a b => exact ih b
theorem aL.map {f : Operand -> AV} {g : Operand -> Value} : ∀ {l : List Operand}, (∀ x ∈ l, aG μ I (f x) (g x)) -> aL μ I (l.map f) (l.map g)
 | [], _ => .nil
 | x :: l, h => .cons (h x (by simp)) (aL.map fun y hy => h y (by simp [hy]))
theorem aG.oj {x : AV} {u : Value} (h : aG μ I x u) (h1 : x.one = true) : u.oneCell' = true := by
 cases h <;> first | rfl | simp [AV.one] at h1
theorem aL.oj {x : List AV} {u : List Value} (h : aL μ I x u) (h1 : x.all AV.one = true) : ∀ v ∈ u, v.oneCell' = true := by
 induction x generalizing u with
 | nil => cases h; intro v hv; cases hv
 | cons a xs ih =>
  cases h with
  | cons h2 h3 =>
   simp only [List.all_cons, Bool.and_eq_true] at h1
   intro v hv
   rcases List.mem_cons.1 hv with rfl | hv
   ·exact h2.oj h1.1
   ·exact ih h3 h1.2 v hv
theorem aG.cells {x : AV} {u : Value} (h : aG μ I x u) (hb : x ≠ .bad) : aL μ I x.cells u.cells.toList := by
 cases h
 case bad => exact absurd rfl hb
 case agg a => exact a
 all_goals exact .cons (by first | assumption | constructor <;> assumption) .nil
theorem cF.get {cs : List AV} {B o : Nat} (h : cF μ I cs B o) : ∀ {i : Nat} {a : AV}, cs[i]? = some a -> ∃ v, I B (o + i) = some v /\ aG μ I a v := by
 induction cs generalizing o with
 | nil => intro i a e; simp at e
 | cons y xs ih =>
  intro i a e
  cases h with
  | cons h0 h1 h2 =>
   cases i with
   | zero => simp at e; subst e; exact ⟨_, h0, h1⟩
   | succ i =>
    simp at e
    obtain ⟨v, hv, hr⟩ := ih h2 e
    exact ⟨v, by rw [show o + (i + 1) = o + 1 + i from by omega]; exact hv, hr⟩
theorem cF.drop {cs : List AV} {B o : Nat} (h : cF μ I cs B o) : ∀ n, n <= cs.length -> cF μ I (cs.drop n) B (o + n) := by
 intro n
 induction n generalizing cs o with
 | zero => intro _; exact h
 | succ n ih =>
  intro hn
  cases h with
  | nil => simp at hn
  | cons h0 h1 h2 =>
   have := ih h2 (by simpa using hn)
   rw [show o + (n + 1) = o + 1 + n from by omega]
   exact this
theorem zS : ∀ v : Value, aG μ I (CK v) v := by
 intro v
 cases v
 case pointer a => cases a <;> constructor
 case slice a l c =>
  cases a
  ·cases l
   ·cases c <;> constructor
   ·constructor
  ·constructor
 case map r => cases r <;> constructor
 all_goals constructor
theorem sH : ∀ l : List Value, aL μ I (l.map CK) l
 | [] => .nil
 | v :: l => .cons (zS v) (sH l)
theorem gM (v : Value) : aG μ I (x8 v) v := by
 have h : aG μ I (CK v) v := zS v
 cases v
 case agg cs => exact .agg (sH _)
 case tuple vs => exact .tuple (sH _)
 all_goals exact h
end
end Go.a9
namespace Go.a9
open Go.RowKit (Below)
inductive zA (μ : Mu) (I : fu) : iZ -> Deferred -> Prop
 | func {f : FuncId} {a : List AV} {cap args : Array Value} : aL μ I a (args ++ cap).toList -> zA μ I { yj := .func f, args := a } { target := .fn (.func f) cap, args }
 | collected {r B o N : Nat} {a : List AV} {args : Array Value} : μ r = some (B, o, N) -> zA μ I { yj := .collected r, args := a } { target := .collected B, args }
inductive kO (μ : Mu) (I : fu) : List iZ -> List Deferred -> Prop
 | nil : kO μ I [] []
 | cons {a : iZ} {d : Deferred} {as_ : List iZ} {ds : List Deferred} : zA μ I a d -> kO μ I as_ ds -> kO μ I (a :: as_) (d :: ds)
def h9 (μ : Mu) (I : fu) (tm : Tr AV) (tmps : Array Value) : Prop := ∀ t v, tm.get t = some v -> aG μ I v (tmps.getD t undef)
structure wa (μ : Mu) (I : fu) (a : fS) (c : Loop) : Prop where
 state : c.state = a.state
 pending : c.pending = a.pending
 fn : c.fn = a.fn
 nt : c.tmps.size = a.nt
 tm : h9 μ I a.tm c.tmps
 params : c.params = a.params
 assign : c.assign = a.assign
 body : c.body = a.body
 defers : ∃ o N, μ a.defers = some (c.defers, o, N)
inductive g7 (μ : Mu) (I : fu) : List dH -> List MapEntry -> Prop
 | nil : g7 μ I [] []
 | cons {a : dH} {c : MapEntry} {as_ : List dH} {cs : List MapEntry} : aG μ I a.key c.key -> aG μ I a.val c.val -> a.born = c.born -> g7 μ I as_ cs -> g7 μ I (a :: as_) (c :: cs)
inductive kR (μ : Mu) (I : fu) : fO -> Nat -> Nat -> Obj -> Prop
 | cells {cs : List AV} {o N : Nat} {c : Array Value} {e : TypeId} : c.size = N -> o + cs.length <= N -> (∀ (i : Nat) (a : AV), cs[i]? = some a -> ∃ v, c[o + i]? = some v /\ aG μ I a v) ->
   kR μ I (.cells cs) o N (.cells c e (0, 0))
 | map {es : List dH} {o N : Nat} {l : Array MapEntry} {clock : Nat} : g7 μ I es l.toList -> kR μ I (.map es clock) o N (.map l clock)
 | loop {a : fS} {o N : Nat} {c : Loop} : wa μ I a c -> kR μ I (.loop a) o N (.loop c)
 | kE {o N : Nat} : kR μ I (.deferred none) o N (.deferred none)
 | iy {ds : List iZ} {o N : Nat} {cs : List Deferred} : kO μ I ds cs -> kR μ I (.deferred (some ds)) o N (.deferred (some cs))
structure bL (μ : Mu) (I : fu) (w0 : World) (h : ah) (w : World) : Prop where
 below : Below w0.heap.size w0 w
 live : ∀ b ob, h.get b = some ob -> b < h.next
 mapped : ∀ b B o N, μ b = some (B, o, N) -> w0.heap.size <= B /\ B < w.heap.size /\ b < h.next
 bj : ∀ b ob B o N, h.get b = some ob -> μ b = some (B, o, N) -> ∃ obj, w.heap[B]? = some obj /\ kR μ I ob o N obj
 inj : ∀ b b' ob ob' B o N o' N', h.get b = some ob -> h.get b' = some ob' -> μ b = some (B, o, N) -> μ b' = some (B, o', N') -> b = b'
 wc : ∀ B o v, I B o = some v -> w.cell? ⟨B, o, none⟩ = some v /\ w.frozen? ⟨B, o, none⟩ = w.frozen? ⟨B, o, none⟩ /\ ∀ b ob o' N, h.get b = some ob -> μ b ≠ some (B, o', N)
section
variable {P : Program} {μ : Mu} {I : fu} {w0 w : World} {h : ah}
theorem dZ (B o n : Nat) : (Addr.mk B o none).add n = ⟨B, o + n, none⟩ := by
 unfold Addr.add; split
 ·rename_i e; subst e; rfl
 ·rfl
theorem run_sizeOf {t n : Nat} (e : aA P t = some n) (w : World) : (sizeOf t).run P w = .ok n w := by
 unfold aA at e
 unfold sizeOf typeInfo
 cases hi : P.info? t with
 | none => rw [hi] at e; simp at e
 | some i => rw [hi] at e; simp at e; subst e; simp [hi]
theorem run_typeInfo {t : TypeId} {i : TypeInfo} (e : P.info? t = some i) (w : World) : (typeInfo t).run P w = .ok i w := by
 unfold typeInfo; simp [e]
theorem run_underlying {t : TypeId} {d : TypeDesc} (e : P.underlying t = some d) (w : World) : (underlying t).run P w = .ok d w := by
 unfold underlying; simp [e]
theorem mv {t : TypeId} {b : Bool} (e : bB P t = some b) (w : World) : (isAgg t).run P w = .ok b w := by
 unfold bB at e
 unfold isAgg
 cases hu : P.underlying t with
 | none => rw [hu] at e; cases e
 | some d => rw [hu] at e; simp [run_underlying hu]; cases d <;> simp at e <;> subst e <;> simp
theorem cK {t : TypeId} {z : AV} (e : fP P t = some z) (w : World) : ∃ i v, P.info? t = some i /\ i.zero = some v /\ z = x8 v /\ (zeroValue t).run P w = .ok v w := by
 unfold fP at e
 cases hi : P.info? t with
 | none => rw [hi] at e; cases e
 | some i =>
  rw [hi] at e
  simp at e
  obtain ⟨v, hv, rfl⟩ := e
  exact ⟨i, v, rfl, hv, rfl, by unfold zeroValue; simp [run_typeInfo hi, hv]⟩
def fb (μ : Mu) (I : fu) (w : World) (cs : List AV) (B o : Nat) : Prop := ∀ (i : Nat) (a : AV), cs[i]? = some a -> ∃ v, w.cell? ⟨B, o + i, none⟩ = some v /\ aG μ I a v
theorem fb.drop {cs : List AV} {B o : Nat} (c : fb μ I w cs B o) (n : Nat) : fb μ I w (cs.drop n) B (o + n) := by
 intro i a e
 rw [List.getElem?_drop] at e
 obtain ⟨v, hv, hr⟩ := c _ _ e
 exact ⟨v, by rw [show o + n + i = o + (n + i) from by omega]; exact hv, hr⟩
theorem qG (W : bL μ I w0 h w) {cs : List AV} {B o : Nat} (c : cF μ I cs B o) : fb μ I w cs B o := by
 intro i a e
 obtain ⟨v, hv, hr⟩ := c.get e
 exact ⟨v, (W.wc _ _ _ hv).1, hr⟩
theorem mW (W : bL μ I w0 h w) {b B o N : Nat} {cs : List AV} (hb : h.get b = some (.cells cs)) (hm : μ b = some (B, o, N)) : fb μ I w cs B o := by
 obtain ⟨obj, ho, hr⟩ := W.bj _ _ _ _ _ hb hm
 cases hr with
 | cells h1 h2 h3 =>
  intro i a e
  obtain ⟨v, hv, hr⟩ := h3 i a e
  exact ⟨v, by simp [World.cell?, ho, hv], hr⟩
theorem ov {B o : Nat} : ∀ (n i : Nat) (cs : List AV) (acc : Array Value), (∀ (j : Nat) (a : AV), cs[j]? = some a -> ∃ v, w.cell? ⟨B, o + i + j, none⟩ = some v /\ aG μ I a v) -> cs.length = n ->
  ∃ vs : List Value, (loadCellsFrom ⟨B, o, none⟩ i n acc).run P w = .ok (acc ++ vs.toArray) w /\ aL μ I cs vs := by
 intro n
 induction n with
 | zero =>
  intro i cs acc _ hl
  have : cs = [] := by simpa using hl
  subst this
  exact ⟨[], by simp [loadCellsFrom], .nil⟩
 | succ n ih =>
  intro i cs acc hc hl
  cases cs with
  | nil => simp at hl
  | cons a cs =>
   obtain ⟨v, hv, hr⟩ := hc 0 a rfl
   obtain ⟨vs, h1, h2⟩ := ih (i + 1) cs (acc.push v) (fun j a e => by
    obtain ⟨v, hv, hr⟩ := hc (j + 1) a (by simpa using e)
    exact ⟨v, by rw [show o + (i + 1) + j = o + i + (j + 1) from by omega]; exact hv, hr⟩) (by simpa using hl)
   refine ⟨v :: vs, ?_, .cons hr h2⟩
   have hv' : w.cell? ⟨B, o + i, none⟩ = some v := by simpa using hv
   simp only [loadCellsFrom, Sem.run_bind, run_load, dZ, hv', Result.andThen_ok, h1]
   congr 1
   apply Array.ext'
   simp
theorem mU {B o n : Nat} {cs : List AV} (c : fb μ I w cs B o) (hl : cs.length = n) :
  ∃ vs : List Value, (loadCells ⟨B, o, none⟩ n).run P w = .ok vs.toArray w /\ aL μ I cs vs := by
 obtain ⟨vs, h1, h2⟩ := ov (P := P) (w := w) (μ := μ) (I := I) (B := B) (o := o) n 0 cs #[] (fun j a e => by simpa using c j a e) hl
 exact ⟨vs, by unfold loadCells; rw [h1]; simp, h2⟩
theorem dP : ∀ {n : Nat} {cs l : List AV}, takeN n cs = some l -> l = cs.take n /\ l.length = n
 | 0, _, _, e => by simp [takeN] at e; subst e; simp
 | n + 1, [], _, e => by simp [takeN] at e
 | n + 1, x :: xs, l, e => by
  simp only [takeN] at e
  cases h : takeN n xs with
  | none => rw [h] at e; simp at e
  | some m =>
   rw [h] at e
   simp at e
   obtain ⟨h1, h2⟩ := dP h
   subst e
   exact ⟨by simp [h1], by simp [h2]⟩
theorem fb.take {cs l : List AV} {B o n : Nat} (c : fb μ I w cs B o) (e : takeN n cs = some l) : fb μ I w l B o := by
 obtain ⟨rfl, _⟩ := dP e
 intro i a hi
 rw [List.getElem?_take] at hi
 split at hi
 ·exact c _ _ hi
 ·cases hi
theorem yE {t : TypeId} {cs : List AV} {v : AV} {B o : Nat} (e : gk P t cs = some v) (c : fb μ I w cs B o) :
  ∃ u, (loadVar t ⟨B, o, none⟩).run P w = .ok u w /\ aG μ I v u := by
 unfold gk at e
 unfold loadVar
 cases ha : bB P t with
 | none => rw [ha] at e; cases e
 | some b =>
  rw [ha] at e
  cases b with
  | true =>
   simp only at e
   cases hs : aA P t with
   | none => rw [hs] at e; cases e
   | some n =>
    rw [hs] at e
    simp only at e
    cases ht : takeN n cs with
    | none => rw [ht] at e; cases e
    | some l =>
     rw [ht] at e
     simp at e
     subst e
     obtain ⟨vs, h1, h2⟩ := mU (P := P) (c.take ht) (dP ht).2
     exact ⟨.agg vs.toArray, by simp [mv ha, run_sizeOf hs, h1], .agg (by simpa using h2)⟩
  | false =>
   simp only at e
   cases cs with
   | nil => cases e
   | cons x xs =>
    simp at e
    subst e
    obtain ⟨v, hv, hr⟩ := c 0 x rfl
    have hv' : w.cell? ⟨B, o, none⟩ = some v := by simpa using hv
    exact ⟨v, by simp [mv ha, hv'], hr⟩
theorem uu (W : bL μ I w0 h w) {a : AV} {u : Value} {cs : List AV} (e : rowAt h a = some cs) (r : aG μ I a u) :
  ∃ B o, u = .pointer (some ⟨B, o, none⟩) /\ fb μ I w cs B o := by
 cases r <;> simp only [rowAt] at e <;> try cases e
 case ptr b off B o N hm =>
  split at e
  ·rename_i cs' hb
   simp at e
   subst e
   exact ⟨B, o + off, rfl, (mW W hb hm).drop off⟩
  ·cases e
 case fT B o c => exact ⟨B, o, rfl, qG W c⟩
theorem uU (W : bL μ I w0 h w) {t : TypeId} {a v : AV} {u : Value} (e : fE P h t a = some v) (r : aG μ I a u) :
  ∃ x, (Instr.loadAt t u).run P w = .ok x w /\ aG μ I v x := by
 unfold fE at e
 split at e
 ·rename_i cs hr
  obtain ⟨B, o, rfl, c⟩ := uu W hr r
  obtain ⟨x, h1, h2⟩ := yE e c
  exact ⟨x, by simp [Instr.loadAt, Instr.sureAddr, h1], h2⟩
 ·cases e
theorem sw {n : Nat} {a v : AV} {u : Value} (e : gq n a = some v) (r : aG μ I a u) :
  ∃ B o, u = .pointer (some ⟨B, o, none⟩) /\ aG μ I v (.pointer (some ⟨B, o + n, none⟩)) := by
 cases r <;> simp only [gq] at e <;> try cases e
 case ptr b off B o N hm =>
  exact ⟨B, o + off, rfl, by rw [show o + off + n = o + (off + n) from by omega]; exact .ptr hm⟩
 case fT cs B o c =>
  refine ⟨B, o, rfl, .fT ?_⟩
  by_cases hn : n <= cs.length
  ·exact c.drop n hn
  ·rw [List.drop_eq_nil_of_le (by omega)]; exact .nil
theorem tj {s : TypeId} {a v : AV} {f : Nat} {u : Value} (e : dX P s a f = some v) (r : aG μ I a u) (w : World) :
  ∃ x, (Instr.fieldAt s u f).run P w = .ok x w /\ aG μ I v x := by
 unfold dX jr at e
 unfold Instr.fieldAt
 cases hu : P.underlying s with
 | none => rw [hu] at e; cases e
 | some d =>
  rw [hu] at e
  cases d <;> simp only at e <;> try cases e
  case struct fields =>
   cases hf : fields[f]? with
   | none => rw [hf] at e; cases e
   | some fd =>
    rw [hf] at e
    simp only at e
    cases hs : aA P fd.type with
    | none => rw [hs] at e; cases e
    | some n =>
     rw [hs] at e
     cases n with
     | zero => cases e
     | succ n =>
      simp only at e
      obtain ⟨B, o, rfl, hv⟩ := sw e r
      exact ⟨_, by simp [run_underlying hu, hf, Instr.sureAddr, fieldPlace, run_sizeOf hs, dZ], hv⟩
theorem gW {t : TypeId} {cs : List AV} {us : Array Value} {off : Nat} {v : AV} (e : eD P t cs off = some v) (r : aL μ I cs us.toList) (w : World) :
  ∃ x, (part t us off).run P w = .ok x w /\ aG μ I v x := by
 unfold eD gk at e
 unfold part
 have hd := r.drop off
 cases ha : bB P t with
 | none => rw [ha] at e; cases e
 | some b =>
  rw [ha] at e
  cases b with
  | true =>
   simp only at e
   cases hs : aA P t with
   | none => rw [hs] at e; cases e
   | some n =>
    rw [hs] at e
    simp only at e
    cases ht : takeN n (cs.drop off) with
    | none => rw [ht] at e; cases e
    | some l =>
     rw [ht] at e
     simp at e
     subst e
     obtain ⟨rfl, hl⟩ := dP ht
     refine ⟨.agg (us.extract off (off + n)), by simp [mv ha, run_sizeOf hs], .agg ?_⟩
     have := hd.take n
     rw [Array.toList_extract]
     simpa [List.extract] using this
  | false =>
   simp only at e
   split at e
   ·rename_i c l hc
    simp at e
    subst e
    have h0 : cs[off]? = some c := by
     have : (cs.drop off)[0]? = some c := by rw [hc]; rfl
     simpa using this
    obtain ⟨x, hx, hr⟩ := r.get h0
    have hx' : us[off]? = some x := by simpa using hx
    exact ⟨x, by simp [mv ha, hx'], hr⟩
   ·cases e
theorem zt {s : TypeId} {a v : AV} {f : Nat} {u : Value} (e : pT P s a f = some v) (r : aG μ I a u) (w : World) :
  ∃ x, (Instr.field s u f).run P w = .ok x w /\ aG μ I v x := by
 unfold pT jr at e
 unfold Instr.field
 cases r <;> simp only at e <;> try cases e
 case agg x u r =>
  cases hu : P.underlying s with
  | none => rw [hu] at e; cases e
  | some d =>
   rw [hu] at e
   cases d <;> simp only at e <;> try cases e
   case struct fields =>
    cases hf : fields[f]? with
    | none => rw [hf] at e; cases e
    | some fd =>
     rw [hf] at e
     simp only at e
     obtain ⟨x, h1, h2⟩ := gW e r w
     exact ⟨x, by simp [run_underlying hu, hf, asAgg, h1], h2⟩
theorem eL {n : Int} {len i : Nat} (e : idx n len = some i) : n = (i : Int) /\ i < len := by
 unfold idx at e
 split at e
 ·rename_i m
  cases hb : Nat.blt m len with
  | true => rw [hb] at e; simp at e; subst e; exact ⟨rfl, by simp [Nat.blt] at hb; omega⟩
  | false => rw [hb] at e; cases e
 ·cases e
theorem aJ {α : Type} {b : Bool} {x : Option α} {v : α} (e : cond b x none = some v) : b = true /\ x = some v := by
 cases b
 ·cases e
 ·exact ⟨rfl, e⟩
theorem iD {α : Type} {b : Bool} {x : Option α} {v : α} (e : cond b none x = some v) : b = false /\ x = some v := by
 cases b
 ·exact ⟨rfl, e⟩
 ·cases e
end
end Go.a9
namespace Go.a9
open Go.RowKit (Below)
section
variable {P : Program} {μ : Mu} {I : fu} {w0 w : World} {h : ah}
theorem tg {t : TypeId} {a i v : AV} {u x : Value} (e : cE P t a i = some v) (r : aG μ I a u) (ri : aG μ I i x) (w : World) :
  ∃ y, (Instr.indexAt t u x).run P w = .ok y w /\ aG μ I v y := by
 unfold cE at e
 unfold Instr.indexAt
 cases ri <;> simp only at e <;> try cases e
 case int k n =>
  cases hu : P.underlying t with
  | none => rw [hu] at e; cases e
  | some d =>
   rw [hu] at e
   cases d <;> simp only at e <;> try cases e
   case array len elem =>
    have main : ∀ (_ : (match idx n len, aA P elem with | some i, some s => gq (i * s) a | _, _ => none) = some v), ∃ y, (Instr.indexAt t u (.int k n)).run P w = .ok y w /\ aG μ I v y := by
     intro e'
     cases hi : idx n len with
     | none => rw [hi] at e'; cases e'
     | some i =>
      rw [hi] at e'
      cases hs : aA P elem with
      | none => rw [hs] at e'; cases e'
      | some s =>
       rw [hs] at e'
       simp only at e'
       obtain ⟨rfl, hl⟩ := eL hi
       obtain ⟨B, o, rfl, hv⟩ := sw e' r
       refine ⟨_, ?_, hv⟩
       unfold Instr.indexAt
       simp [asIntOf, run_underlying hu, Instr.sureAddr, run_sizeOf hs, hl, dZ]
    unfold Instr.indexAt at main
    cases r <;> simp only at e <;> first | exact main e | cases e
   case slice elem =>
    cases r <;> simp only at e <;> try cases e
    case slice b off len sz cap B o N hm hl hN =>
     cases hi : idx n len with
     | none => rw [hi] at e; cases e
     | some i =>
      rw [hi] at e
      cases hs : aA P elem with
      | none => rw [hs] at e; cases e
      | some s =>
       rw [hs] at e
       simp only at e
       obtain ⟨hb, e⟩ := aJ e
       simp at e
       subst e
       obtain ⟨rfl, hlt⟩ := eL hi
       exact ⟨.pointer (some ⟨B, o + (off + i * s), none⟩), by simp [asIntOf, run_underlying hu, run_sizeOf hs, hlt, dZ]; omega, .ptr hm⟩
    case jy b off sz B o N a hm =>
     have : idx n 0 = none := by
      cases hi : idx n 0 with
      | none => rfl
      | some i => have := (eL hi).2; omega
     rw [this] at e
     cases e
    case bY cs len sz cap B o hc hl =>
     cases hi : idx n len with
     | none => rw [hi] at e; cases e
     | some i =>
      rw [hi] at e
      cases hs : aA P elem with
      | none => rw [hs] at e; cases e
      | some s =>
       rw [hs] at e
       simp only at e
       obtain ⟨hb, e⟩ := aJ e
       simp at e
       subst e
       obtain ⟨rfl, hlt⟩ := eL hi
       refine ⟨.pointer (some ⟨B, o + i * s, none⟩), by simp [asIntOf, run_underlying hu, run_sizeOf hs, hlt, dZ], .fT ?_⟩
       by_cases hn : i * s <= cs.length
       ·exact hc.drop _ hn
       ·rw [List.drop_eq_nil_of_le (by omega)]; exact .nil
    case je cs sz a =>
     have : idx n 0 = none := by
      cases hi : idx n 0 with
      | none => rfl
      | some i => have := (eL hi).2; omega
     rw [this] at e
     cases e
theorem zp {t : TypeId} {a i v : AV} {u x : Value} (e : pS P t a i = some v) (r : aG μ I a u) (ri : aG μ I i x) (w : World) :
  ∃ y, (Instr.index t u x).run P w = .ok y w /\ aG μ I v y := by
 unfold pS at e
 unfold Instr.index
 cases ri <;> simp only at e <;> try cases e
 case int k n =>
  cases hu : P.underlying t with
  | none => rw [hu] at e; cases e
  | some d =>
   rw [hu] at e
   cases d <;> simp only at e <;> try cases e
   case array len elem =>
    cases r <;> simp only at e <;> try cases e
    case agg cs us r =>
     cases hi : idx n len with
     | none => rw [hi] at e; cases e
     | some i =>
      rw [hi] at e
      cases hs : aA P elem with
      | none => rw [hs] at e; cases e
      | some s =>
       rw [hs] at e
       simp only at e
       obtain ⟨rfl, hlt⟩ := eL hi
       obtain ⟨y, h1, h2⟩ := gW e r w
       exact ⟨y, by simp [asIntOf, run_underlying hu, run_sizeOf hs, hlt, h1], h2⟩
   case string =>
    cases r <;> simp only at e <;> try cases e
    case str s =>
     cases hi : idx n s.size with
     | none => rw [hi] at e; cases e
     | some i =>
      rw [hi] at e
      simp only at e
      obtain ⟨rfl, hlt⟩ := eL hi
      cases hb : s[i]? with
      | none => rw [hb] at e; cases e
      | some b =>
       rw [hb] at e
       simp at e
       subst e
       exact ⟨.int .u8 b.toNat, by simp [asIntOf, run_underlying hu, hb], .int _ _⟩
theorem dV {len : Nat} {lo hi : Option AV} {l m : Nat} (e : bounds len lo hi = some (l, m)) :
  l <= m /\ m <= len /\ (hi = none /\ m = len \/ ∃ k, hi = some (.int k m)) /\ (lo = none /\ l = 0 \/ ∃ k, lo = some (.int k l)) := by
 unfold bounds at e
 cases hi with
 | none =>
  simp only at e
  cases lo with
  | none => simp at e; obtain ⟨rfl, rfl⟩ := e; exact ⟨by omega, by omega, .inl ⟨rfl, rfl⟩, .inl ⟨rfl, rfl⟩⟩
  | some x =>
   cases x <;> simp only at e <;> try cases e
   case int k n =>
    cases h1 : idx n (len + 1) with
    | none => rw [h1] at e; cases e
    | some i =>
     rw [h1] at e
     simp at e
     obtain ⟨rfl, rfl⟩ := e
     obtain ⟨rfl, h2⟩ := eL h1
     exact ⟨by omega, by omega, .inl ⟨rfl, rfl⟩, .inr ⟨k, rfl⟩⟩
 | some y =>
  cases y <;> simp only at e <;> try cases e
  case int k n =>
   cases h1 : idx n (len + 1) with
   | none => rw [h1] at e; cases e
   | some j =>
    rw [h1] at e
    simp only at e
    obtain ⟨rfl, h2⟩ := eL h1
    cases lo with
    | none => simp at e; obtain ⟨rfl, rfl⟩ := e; exact ⟨by omega, by omega, .inr ⟨k, rfl⟩, .inl ⟨rfl, rfl⟩⟩
    | some x =>
     cases x <;> simp only at e <;> try cases e
     case int k' n' =>
      cases h3 : idx n' (j + 1) with
      | none => rw [h3] at e; cases e
      | some i =>
       rw [h3] at e
       simp at e
       obtain ⟨rfl, rfl⟩ := e
       obtain ⟨rfl, h4⟩ := eL h3
       exact ⟨by omega, by omega, .inr ⟨k, rfl⟩, .inr ⟨k', rfl⟩⟩
inductive tP (μ : Mu) (I : fu) : Option AV -> Option Value -> Prop
 | none : tP μ I none none
 | some {a : AV} {v : Value} : aG μ I a v -> tP μ I (some a) (some v)
theorem cC (isSlice : Bool) {len cap : Nat} {lo hi : Option AV} {lo' hi' : Option Value} {l m : Nat} (e : bounds len lo hi = some (l, m)) (hcap : len <= cap)
  (r1 : tP μ I lo lo') (r2 : tP μ I hi hi') (w : World) : (Instr.sliceBounds isSlice len cap lo' hi' none).run P w = .ok (l, m, cap) w := by
 obtain ⟨h1, h2, h3, h4⟩ := dV e
 unfold Instr.sliceBounds
 have q1 : ∀ (k : IntKind) (n y : Nat) (c : BoundsCode), n <= y -> (Instr.sliceBound (.int k n) y c).run P w = .ok n w := by
  intro k n y c hle
  unfold Instr.sliceBound
  simp [asIntOf, hle]
 rcases h3 with ⟨rfl, rfl⟩ | ⟨k, rfl⟩ <;> rcases h4 with ⟨rfl, rfl⟩ | ⟨k', rfl⟩ <;> cases r1 <;> cases r2
 ·simp
 ·rename_i r1; cases r1; simp [q1 _ _ _ _ h1]
 ·rename_i r2; cases r2; simp [q1 _ _ _ _ (Nat.le_trans h2 hcap)]
 ·rename_i r1 _ r2; cases r1; cases r2; simp [q1 _ _ _ _ h1, q1 _ _ _ _ (Nat.le_trans h2 hcap)]
theorem zi (W : bL μ I w0 h w) {t : TypeId} {a v : AV} {lo hi : Option AV} {u : Value} {lo' hi' : Option Value} (e : jJ P h t a lo hi = some v) (r : aG μ I a u)
  (r1 : tP μ I lo lo') (r2 : tP μ I hi hi') : ∃ y, (Instr.sliceAt t u lo' hi' none).run P w = .ok y w /\ aG μ I v y := by
 unfold jJ at e
 unfold Instr.sliceAt
 cases hu : P.underlying t with
 | none => rw [hu] at e; cases e
 | some d =>
  rw [hu] at e
  cases d <;> simp only at e <;> try cases e
  case array n elem =>
   cases r <;> simp only at e <;> try cases e
   case ptr b off B o N hm =>
    cases hb : h.get b with
    | none => rw [hb] at e; cases e
    | some ob =>
     rw [hb] at e
     cases hbd : bounds n lo hi with
     | none => rw [hbd] at e; cases ob <;> cases e
     | some lm =>
      obtain ⟨l, m⟩ := lm
      rw [hbd] at e
      cases hs : aA P elem with
      | none => rw [hs] at e; cases ob <;> cases e
      | some s =>
       rw [hs] at e
       cases ob <;> simp only at e <;> try cases e
       case cells cs =>
        obtain ⟨hc, e⟩ := aJ e
        simp at e
        subst e
        have hc := Nat.le_of_ble_eq_true hc
        obtain ⟨b1, b2, _, _⟩ := dV hbd
        obtain ⟨obj, ho, hr⟩ := W.bj _ _ _ _ _ hb hm
        cases hr with
        | cells g1 g2 g3 =>
         have hmul : l * s <= n * s := Nat.mul_le_mul_right _ (by omega)
         refine ⟨_, by simp [run_underlying hu, Instr.sureAddr, cC false hbd (Nat.le_refl _) r1 r2 w, run_sizeOf hs, dZ]; rfl, ?_⟩
         by_cases hz : n = l
         ·subst hz
          have : m - n = 0 := by omega
          simp only [if_pos, this, Nat.sub_self]
          exact .jy hm
         ·rw [if_neg hz, show o + off + l * s = o + (off + l * s) from by omega]
          refine .slice hm (by omega) ?_
          have : (n - l) * s = n * s - l * s := Nat.sub_mul _ _ _
          omega
  case string =>
   cases r <;> simp only at e <;> try cases e
   case str s =>
    cases hbd : bounds s.size lo hi with
    | none => rw [hbd] at e; cases e
    | some lm =>
     obtain ⟨l, m⟩ := lm
     rw [hbd] at e
     simp at e
     subst e
     exact ⟨.string (s.extract l m), by simp [run_underlying hu, Instr.slice, cC false hbd (Nat.le_refl _) r1 r2 w], .str _⟩
  case slice elem =>
   cases r <;> simp only at e <;> try cases e
   case aV =>
    cases hbd : bounds 0 lo hi with
    | none => rw [hbd] at e; cases e
    | some lm =>
     obtain ⟨l, m⟩ := lm
     rw [hbd] at e
     cases hs : aA P elem with
     | none => rw [hs] at e; cases e
     | some s =>
      rw [hs] at e
      simp at e
      subst e
      obtain ⟨b1, b2, _, _⟩ := dV hbd
      have hm0 : m = 0 := by omega
      have hl0 : l = 0 := by omega
      subst hm0; subst hl0
      exact ⟨.slice none 0 0, by simp [run_underlying hu, Instr.slice, cC true hbd (Nat.le_refl _) r1 r2 w, run_sizeOf hs], .aV⟩
   case slice b off len sz cap B o N hm hl hN =>
    cases hbd : bounds len lo hi with
    | none => rw [hbd] at e; cases e
    | some lm =>
     obtain ⟨l, m⟩ := lm
     rw [hbd] at e
     cases hs : aA P elem with
     | none => rw [hs] at e; cases e
     | some s =>
      rw [hs] at e
      simp only at e
      obtain ⟨hb, e⟩ := aJ e
      have hb := aq hb
      subst hb
      simp at e
      subst e
      obtain ⟨b1, b2, _, _⟩ := dV hbd
      refine ⟨_, by simp [run_underlying hu, Instr.slice, cC true hbd hl r1 r2 w, run_sizeOf hs, dZ]; rfl, ?_⟩
      by_cases hz : cap = l
      ·subst hz
       have : m - cap = 0 := by omega
       simp only [if_pos, this, Nat.sub_self]
       exact .jy hm
      ·rw [if_neg hz, show o + off + l * s = o + (off + l * s) from by omega]
       refine .slice hm (by omega) ?_
       have h1 : (cap - l) * s = cap * s - l * s := Nat.sub_mul _ _ _
       have h2 : l * s <= cap * s := Nat.mul_le_mul_right _ (by omega)
       omega
   case jy b off sz B o N a hm =>
    cases hbd : bounds 0 lo hi with
    | none => rw [hbd] at e; cases e
    | some lm =>
     obtain ⟨l, m⟩ := lm
     rw [hbd] at e
     cases hs : aA P elem with
     | none => rw [hs] at e; cases e
     | some s =>
      rw [hs] at e
      simp only at e
      obtain ⟨hb, e⟩ := aJ e
      simp at e
      subst e
      obtain ⟨b1, b2, _, _⟩ := dV hbd
      have hm0 : m = 0 := by omega
      have hl0 : l = 0 := by omega
      subst hm0; subst hl0
      exact ⟨.slice (some a) 0 0, by simp [run_underlying hu, Instr.slice, cC true hbd (Nat.le_refl _) r1 r2 w, run_sizeOf hs], .jy hm⟩
   case bY cs len sz cap B o hc hl =>
    cases hbd : bounds len lo hi with
    | none => rw [hbd] at e; cases e
    | some lm =>
     obtain ⟨l, m⟩ := lm
     rw [hbd] at e
     cases hs : aA P elem with
     | none => rw [hs] at e; cases e
     | some s =>
      rw [hs] at e
      simp only at e
      obtain ⟨hb, e⟩ := aJ e
      simp at e
      subst e
      obtain ⟨b1, b2, _, _⟩ := dV hbd
      refine ⟨_, by simp [run_underlying hu, Instr.slice, cC true hbd hl r1 r2 w, run_sizeOf hs, dZ]; rfl, ?_⟩
      by_cases hz : cap = l
      ·subst hz
       have : m - cap = 0 := by omega
       simp only [if_pos, this, Nat.sub_self]
       exact .je
      ·rw [if_neg hz]
       refine .bY ?_ (by omega)
       by_cases hn : l * s <= cs.length
       ·exact hc.drop _ hn
       ·rw [List.drop_eq_nil_of_le (by omega)]; exact .nil
   case je cs sz a =>
    cases hbd : bounds 0 lo hi with
    | none => rw [hbd] at e; cases e
    | some lm =>
     obtain ⟨l, m⟩ := lm
     rw [hbd] at e
     cases hs : aA P elem with
     | none => rw [hs] at e; cases e
     | some s =>
      rw [hs] at e
      simp only at e
      obtain ⟨hb, e⟩ := aJ e
      simp at e
      subst e
      obtain ⟨b1, b2, _, _⟩ := dV hbd
      have hm0 : m = 0 := by omega
      have hl0 : l = 0 := by omega
      subst hm0; subst hl0
      exact ⟨.slice (some a) 0 0, by simp [run_underlying hu, Instr.slice, cC true hbd (Nat.le_refl _) r1 r2 w, run_sizeOf hs], .je⟩
end
end Go.a9
namespace Go.a9
open Go.RowKit (Below)
section
variable {P : Program} {μ : Mu} {I : fu} {w0 w : World} {h : ah}
theorem jI {a b : Nat} (h : Nat.blt a b = true) : a < b := Nat.le_of_ble_eq_true h
theorem pL {α : Type} {b : Bool} {x y : α} (h : b = true -> x = y) : cond b x y = y := by cases b <;> simp_all
theorem wj {m M : Nat} (h : Nat.blt m M = true) (hM : (M : Int) = 9223372036854775808) : Int.ofNat m = IntKind.i64.wrap (Int.ofNat m) := by
 have := jI h
 exact (IntWalk.i64_in _ (by simp; omega)).symm
theorem uY {m M : Nat} (h : Nat.blt m M = true) (hM : (M : Int) = 9223372036854775808) : Int.negSucc m = IntKind.i64.wrap (Int.negSucc m) := by
 have := jI h
 exact (IntWalk.i64_in _ (by omega)).symm
theorem wg {m M : Nat} (h : Nat.blt m M = true) (hM : (M : Int) = 18446744073709551616) : Int.ofNat m = IntKind.u64.wrap (Int.ofNat m) := by
 have := jI h
 exact (IntWalk.u64_in _ (by simp; omega)).symm
theorem cZ (k : IntKind) (n : Int) : iV k n = k.wrap n := by
 unfold iV
 split
 ·exact pL fun h => wj h (by omega)
 ·exact pL fun h => uY h (by omega)
 ·exact pL fun h => wg h (by omega)
 ·rfl
theorem pO (a b : ByteArray) : (a == b) = decide (a = b) := by
 rw [beq_toListBytes, Bool.eq_iff_iff, beq_iff_eq, ByteArray.toList_eq, ByteArray.toList_eq, decide_eq_true_iff]
 constructor
 ·intro h; cases a; cases b; congr; exact Array.ext' h
 ·intro h; rw [h]
theorem po {s : Sem Value} {v : AV} (e : wT s = some v) (w : World) : ∃ u, s.run P w = .ok u w /\ aG μ I v u := by
 cases s <;> simp [wT] at e
 subst e
 exact ⟨_, rfl, gM _⟩
theorem xY {op : BinOp} {k : IntKind} {a b : Int} {v : AV} (e : ju op k a b = some v) (hop : op ≠ .shl /\ op ≠ .shr) (w : World) :
  ∃ u, (binOp op (0 : TypeId) (.int k a) (.int k b)).run P w = .ok u w /\ aG μ I v u := by
 cases op <;> simp only [ju] at e
 case shl => exact absurd rfl hop.1
 case shr => exact absurd rfl hop.2
 case add => simp at e; subst e; exact ⟨_, by simp [binOp, Op.intArith]; rfl, by rw [cZ]; exact .int _ _⟩
 case sub => simp at e; subst e; exact ⟨_, by simp [binOp, Op.intArith]; rfl, by rw [cZ]; exact .int _ _⟩
 case mul => simp at e; subst e; exact ⟨_, by simp [binOp, Op.intArith]; rfl, by rw [cZ]; exact .int _ _⟩
 case quo =>
  obtain ⟨h0, e⟩ := iD e
  simp at h0 e
  subst e
  exact ⟨_, by simp [binOp, Op.intDiv, h0]; rfl, by rw [cZ]; exact .int _ _⟩
 case rem =>
  obtain ⟨h0, e⟩ := iD e
  simp at h0 e
  subst e
  exact ⟨_, by simp [binOp, Op.intDiv, h0], .int _ _⟩
 case eql => simp at e; subst e; exact ⟨.bool (a == b), by simp [binOp, Op.intCmp], .bool _⟩
 case neq => simp at e; subst e; exact ⟨.bool (a != b), by simp [binOp, Op.intCmp], by rw [show (a != b) = !decide (a = b) from rfl]; exact .bool _⟩
 case lss => simp at e; subst e; exact ⟨_, by simp [binOp, Op.intCmp], .bool _⟩
 case leq => simp at e; subst e; exact ⟨_, by simp [binOp, Op.intCmp], .bool _⟩
 case gtr => simp at e; subst e; exact ⟨_, by simp [binOp, Op.intCmp], .bool _⟩
 case geq => simp at e; subst e; exact ⟨_, by simp [binOp, Op.intCmp], .bool _⟩
 all_goals
  obtain ⟨u, h1, h2⟩ := po (P := P) (μ := μ) (I := I) e w
  exact ⟨u, by simp [binOp]; exact h1, h2⟩
theorem tc (op : BinOp) (t t' : TypeId) (j k : IntKind) (a b : Int) : binOp op t (.int j a) (.int k b) = binOp op t' (.int j a) (.int k b) := by
 cases op <;> rfl
set_option maxHeartbeats 2000000 in
theorem pU : ∀ (d : Nat) {t : TypeId} {x y : AV} {u v : Value} {b : Bool}, dD P d t x y = some b -> aG μ I x u -> aG μ I y v -> ∀ w : World, (Op.equalIn d t u v).run P w = .ok b w := by
 intro d
 induction d with
 | zero => intro t x y u v b e; simp [dD] at e
 | succ d ih =>
  intro t x y u v b e r1 r2 w
  unfold dD at e
  cases hu : P.underlying t with
  | none => rw [hu] at e; cases e
  | some td =>
   rw [hu] at e
   cases td <;> simp only at e <;> try cases e
   case bool =>
    split at e <;> cases e
    cases r1; cases r2
    simp [Op.equalIn, run_underlying hu]
   case int k =>
    split at e
    ·obtain ⟨hk, e'⟩ := aJ e
     clear e
     simp at hk e'
     subst hk; subst e'
     cases r1; cases r2
     simp [Op.equalIn, run_underlying hu]
     rfl
    ·cases e
   case string =>
    split at e <;> cases e
    cases r1; cases r2
    simp [Op.equalIn, run_underlying hu]
    exact pO _ _
   case pointer =>
    split at e <;> cases e <;> cases r1 <;> cases r2 <;> simp [Op.equalIn, run_underlying hu]
   case interface =>
    split at e <;> cases e <;> cases r1 <;> cases r2 <;> simp [Op.equalIn, run_underlying hu]
   case slice =>
    split at e <;> cases e <;> cases r1 <;> cases r2 <;> simp [Op.equalIn, run_underlying hu]
   case map =>
    split at e <;> cases e <;> cases r1 <;> cases r2 <;> simp [Op.equalIn, run_underlying hu]
   case func =>
    split at e <;> cases e <;> cases r1 <;> cases r2 <;> simp [Op.equalIn, run_underlying hu]
   case struct fields =>
    split at e
    case h_2 => cases e
    rename_i xs ys
    cases r1 with | agg r1 => ?_
    cases r2 with | agg r2 => ?_
    rename_i us vs
    obtain ⟨hst, e'⟩ := iD e
    clear e
    have e := e'
    clear e'
    rw [run_equalIn_struct w d t us vs (by rw [hu]; simp [Program.fieldsOf, hu]) hst]
    have : P.fieldsOf t = fields := by simp [Program.fieldsOf, hu]
    rw [this]
    generalize fields.toList = fs at e
    clear this hst hu
    induction fs generalizing b with
    | nil => simp at e; subst e; simp [Op.eqFields]
    | cons f fs ihf =>
     simp only [List.foldr_cons] at e
     simp only [Op.eqFields]
     by_cases hn : f.name = "_"
     ·simp [hn] at e
      simp [hn]
      exact ihf e
     ·simp [hn] at e
      simp only [ne_eq, hn, not_false_eq_true, if_true]
      cases h1 : eD P f.type xs f.offset with
      | none => rw [h1] at e; cases e
      | some a =>
       rw [h1] at e
       cases h2 : eD P f.type ys f.offset with
       | none => rw [h2] at e; cases e
       | some c =>
        rw [h2] at e
        simp only at e
        obtain ⟨p1, q1, s1⟩ := gW (P := P) h1 r1 w
        obtain ⟨p2, q2, s2⟩ := gW (P := P) h2 r2 w
        cases h3 : dD P d f.type a c with
        | none => rw [h3] at e; cases e
        | some r =>
         rw [h3] at e
         have h4 := ih h3 s1 s2 w
         simp only [Sem.run_bind, q1, q2, h4, Result.andThen_ok]
         cases r with
         | true => simp only at e; simp; exact ihf e
         | false => simp at e; subst e; simp
   case array len elem =>
    split at e
    case h_2 => cases e
    rename_i xs ys
    cases r1 with | agg r1 => ?_
    cases r2 with | agg r2 => ?_
    rename_i us vs
    cases hs : aA P elem with
    | none => rw [hs] at e; cases e
    | some n =>
     rw [hs] at e
     simp only at e
     simp only [Op.equalIn, Sem.run_bind, run_underlying hu, Result.andThen_ok, run_sizeOf hs]
     rw [Std.Legacy.Range.forIn_eq_forIn_range']
     simp only [Std.Legacy.Range.size, Nat.sub_zero, Nat.add_sub_cancel, Nat.div_one]
     rw [List.range_eq_range'] at e
     generalize List.range' 0 len = l at e
     clear hu
     induction l generalizing b with
     | nil => simp at e; subst e; simp
     | cons i l ihl =>
      simp only [List.foldr_cons] at e
      simp only [List.forIn_cons, Sem.run_bind]
      cases h1 : eD P elem xs (i * n) with
      | none => rw [h1] at e; cases e
      | some a =>
       rw [h1] at e
       cases h2 : eD P elem ys (i * n) with
       | none => rw [h2] at e; cases e
       | some c =>
        rw [h2] at e
        simp only at e
        obtain ⟨p1, q1, s1⟩ := gW (P := P) h1 r1 w
        obtain ⟨p2, q2, s2⟩ := gW (P := P) h2 r2 w
        cases h3 : dD P d elem a c with
        | none => rw [h3] at e; cases e
        | some r =>
         rw [h3] at e
         have h4 := ih h3 s1 s2 w
         simp only [q1, q2, h4, Result.andThen_ok]
         cases r with
         | true => simp only at e; simp only [Bool.not_true, Bool.false_eq_true, if_false, Sem.run_pure, Result.andThen_ok]; exact ihl e
         | false => simp at e; subst e; simp
theorem A4 {s t : TypeId} {x v : AV} {u : Value} (e : tp P s t x = some v) (r : aG μ I x u) (w : World) : ∃ y, (convert s t u).run P w = .ok y w /\ aG μ I v y := by
 unfold tp at e
 cases h1 : P.underlying s with
 | none => rw [h1] at e; cases e
 | some a =>
  rw [h1] at e
  cases h2 : P.underlying t with
  | none => rw [h2] at e; cases e
  | some b =>
   rw [h2] at e
   cases b <;> simp only at e <;> try cases e
   case int k =>
    cases r <;> simp only at e <;> try cases e
    refine ⟨_, ?_, .int _ _⟩
    rw [cZ]
    unfold convert
    simp [run_underlying h1, run_underlying h2, Conv.intToInt]
   case string =>
    cases r <;> simp only at e <;> try cases e
    refine ⟨_, ?_, .str _⟩
    unfold convert
    simp [run_underlying h1, run_underlying h2]
theorem CW {op : UnOp} {x v : AV} {u : Value} (e : Eg op x = some v) (r : aG μ I x u) (w : World) : ∃ y, (Op.unary op u).run P w = .ok y w /\ aG μ I v y := by
 unfold Eg at e
 split at e
 ·simp at e; subst e
  cases r
  exact ⟨_, by simp [Op.unary, Op.intArith]; rfl, by rw [cZ, show Int.sub 0 _ = 0 - _ from rfl, Int.zero_sub]; exact .int _ _⟩
 ·simp at e; subst e
  cases r
  exact ⟨_, by simp [Op.unary], .bool _⟩
 ·cases r
  obtain ⟨y, h1, h2⟩ := po (P := P) (μ := μ) (I := I) e w
  exact ⟨y, h1, h2⟩
 ·cases e
end
end Go.a9
namespace Go.a9
open Go.RowKit (Below)
section
variable {P : Program} {μ : Mu} {I : fu} {w0 w : World} {h : ah}
def py : Value -> Value -> Bool
 | .int _ _, .int _ _ | .float _ _, .float _ _ | .complex _ _ _, .complex _ _ _ | .string _, .string _ => false
 | _, _ => true
theorem binOp_eql {u v : Value} (t : TypeId) (hp : py u v = true) : binOp .eql t u v = (do pure (.bool (<- Op.equal t u v))) := by
 cases u <;> cases v <;> first | rfl | cases hp
theorem binOp_neq {u v : Value} (t : TypeId) (hp : py u v = true) : binOp .neq t u v = (do pure (.bool (!(<- Op.equal t u v)))) := by
 cases u <;> cases v <;> first | rfl | cases hp
theorem qK {d : Nat} {t : TypeId} {a b : AV} {u v : Value} {r : Bool} (e : dD P d t a b = some r) (r1 : aG μ I a u) (r2 : aG μ I b v)
  (n1 : ∀ j m k n, a = .int j m -> b = .int k n -> False) (n2 : ∀ s s', a = .str s -> b = .str s' -> False) : py u v = true := by
 have nb : a ≠ .bad /\ b ≠ .bad := by
  constructor
  ·intro q; subst q
   cases d with
   | zero => simp [dD] at e
   | succ d => unfold dD at e; split at e <;> simp at e
  ·intro q; subst q
   cases d with
   | zero => simp [dD] at e
   | succ d => unfold dD at e; split at e <;> (try split at e) <;> simp_all
 cases u <;> cases v <;> first | rfl | skip
 ·cases r1 with
  | bad => exact absurd rfl nb.1
  | int => cases r2 with
   | bad => exact absurd rfl nb.2
   | int => exact (n1 _ _ _ _ rfl rfl).elim
 ·cases r1 with
  | bad => exact absurd rfl nb.1
 ·cases r1 with
  | bad => exact absurd rfl nb.1
 ·cases r1 with
  | bad => exact absurd rfl nb.1
  | str => cases r2 with
   | bad => exact absurd rfl nb.2
   | str => exact (n2 _ _ rfl rfl).elim
theorem vH {x : Operand} (h : isConst x = true) : ∃ v, x = .const v := by
 cases x <;> first | exact ⟨_, rfl⟩ | cases h
theorem qE {op : BinOp} {t : TypeId} {x y : Operand} {a b : AV} {u v : Value} (ho : op = .eql \/ op = .neq) (g : iq P t x y a b = true) (na : a ≠ .bad) (nb : b ≠ .bad) (r1 : aG μ I a u) (r2 : aG μ I b v) (w : World) :
  (eqGuard op t x y u v).run P w = .ok () w := by
 unfold eqGuard
 rcases ho with rfl | rfl
 all_goals
  cases r1 <;> first | exact absurd rfl na | (simp; done) | skip
  ·cases r2 <;> first | exact absurd rfl nb | (simp; done) | skip
   simp only [iq, Bool.or_eq_true] at g
   rcases g with g | g <;> obtain ⟨c, rfl⟩ := vH g <;> simp
  ·cases r2 <;> first | exact absurd rfl nb | (simp; done) | skip
   simp only [iq, Bool.not_eq_true'] at g
   simp [g]
theorem xG (op : BinOp) (t : TypeId) (x y : Operand) (j k : IntKind) (m n : Int) (w : World) : (eqGuard op t x y (.int j m) (.int k n)).run P w = .ok () w := by
 unfold eqGuard; cases op <;> simp
theorem xF (op : BinOp) (t : TypeId) (x y : Operand) (m n : ByteArray) (w : World) : (eqGuard op t x y (.string m) (.string n)).run P w = .ok () w := by
 unfold eqGuard; cases op <;> simp
theorem Ci {op : BinOp} {t : TypeId} {x y : Operand} {a b v : AV} {u u' : Value} (e : nQ P op t x y a b = some v) (r1 : aG μ I a u) (r2 : aG μ I b u') (w : World) :
  ∃ z, (do eqGuard op t x y u u'; binOp op t u u' : Sem Value).run P w = .ok z w /\ aG μ I v z := by
 unfold nQ at e
 split at e
 ·rename_i j m k n
  cases r1; cases r2
  simp only [Sem.run_bind, xG, Result.andThen_ok]
  split at e
  ·obtain ⟨h0, e'⟩ := iD e
   simp at h0 e'
   subst e'
   refine ⟨_, by simp [binOp, Op.shift, Int.not_lt.2 h0]; rfl, ?_⟩
   rw [cZ]; exact .int _ _
  ·obtain ⟨h0, e'⟩ := iD e
   simp at h0 e'
   subst e'
   exact ⟨_, by simp [binOp, Op.shift, Int.not_lt.2 h0], .int _ _⟩
  ·rename_i h1 h2
   obtain ⟨hk, e'⟩ := aJ e
   simp at hk
   subst hk
   obtain ⟨z, h3, h4⟩ := xY (P := P) (μ := μ) (I := I) e' ⟨h1, h2⟩ w
   exact ⟨z, by rw [tc op t 0]; exact h3, h4⟩
 ·cases r1; cases r2
  obtain ⟨z, h1, h2⟩ := po (P := P) (μ := μ) (I := I) e w
  refine ⟨z, ?_, h2⟩
  simp only [Sem.run_bind, xF, Result.andThen_ok]
  rw [<- h1]
  cases op <;> rfl
 ·cases e
 ·cases e
 ·rename_i n3 n4 n1 n2
  split at e
  ·obtain ⟨hg, e'⟩ := aJ e
   cases hq : dD P 10000 t a b with
   | none => rw [hq] at e'; simp at e'
   | some r =>
    rw [hq] at e'
    simp at e'
    subst e'
    have hp := qK hq r1 r2 (fun j m k n q q' => n1 j m k n q q') (fun s s' q q' => n2 s s' q q')
    refine ⟨.bool r, ?_, .bool _⟩
    rw [Sem.run_bind, qE (by simp) hg (fun q => n3 q) (fun q => n4 q) r1 r2 w, Result.andThen_ok, binOp_eql t hp]
    simp [Op.equal, Op.maxDepth, pU 10000 hq r1 r2 w]
  ·obtain ⟨hg, e'⟩ := aJ e
   cases hq : dD P 10000 t a b with
   | none => rw [hq] at e'; simp at e'
   | some r =>
    rw [hq] at e'
    simp at e'
    subst e'
    have hp := qK hq r1 r2 (fun j m k n q q' => n1 j m k n q q') (fun s s' q q' => n2 s s' q q')
    refine ⟨.bool (!r), ?_, .bool _⟩
    rw [Sem.run_bind, qE (by simp) hg (fun q => n3 q) (fun q => n4 q) r1 r2 w, Result.andThen_ok, binOp_neq t hp]
    simp [Op.equal, Op.maxDepth, pU 10000 hq r1 r2 w]
  ·cases e
theorem aL.aB {cs vs : List AV} {us xs : List Value} {off : Nat} (r : aL μ I cs us) (q : aL μ I vs xs) :
  aL μ I (aB cs off vs) (us.take off ++ xs ++ us.drop (off + xs.length)) := by
 unfold a9.aB
 rw [q.length]
 exact ((r.take off).append q).append (r.drop _)
theorem AP (xs : List Value) : ∀ (k off : Nat) (us : Array Value), off + k + xs.length <= us.size ->
  ((xs.zipIdx k).foldl (fun cs (c, j) => cs.setIfInBounds (off + j) c) us).toList = us.toList.take (off + k) ++ xs ++ us.toList.drop (off + k + xs.length) := by
 induction xs with
 | nil => intro k off us hl; simp
 | cons x xs ih =>
  intro k off us hl
  simp only [List.zipIdx_cons, List.foldl_cons]
  simp only [List.length_cons] at hl
  rw [ih (k + 1) off (us.setIfInBounds (off + k) x) (by simp; omega)]
  simp only [Array.toList_setIfInBounds]
  have hlt : off + k < us.toList.length := by simp; omega
  rw [show off + (k + 1) = off + k + 1 from by omega]
  rw [List.take_succ_eq_append_getElem (by simp; omega)]
  simp only [List.getElem_set_self, List.append_assoc, List.cons_append, List.nil_append, List.length_cons]
  rw [List.take_set_of_le (Nat.le_refl _), List.drop_set_of_lt (by omega)]
  rw [show off + k + 1 + xs.length = off + k + (xs.length + 1) from by omega]
theorem qY (xs us : Array Value) (off : Nat) (hl : off + xs.size <= us.size) :
  (xs.zipIdx.foldl (fun cs (c, j) => cs.setIfInBounds (off + j) c) us).toList = us.toList.take off ++ xs.toList ++ us.toList.drop (off + xs.size) := by
 rw [<- Array.foldl_toList, Array.toList_zipIdx]
 have := AP xs.toList 0 off us (by simpa using hl)
 simpa using this
inductive mi (μ : Mu) (I : fu) : List (Nat × AV) -> List (Nat × Value) -> Prop
 | nil : mi μ I [] []
 | cons {i : Nat} {a : AV} {v : Value} {l : List (Nat × AV)} {m : List (Nat × Value)} : aG μ I a v -> mi μ I l m -> mi μ I ((i, a) :: l) ((i, v) :: m)
theorem mi.map {f : Operand -> AV} {g : Operand -> Value} : ∀ {l : List (Nat × Operand)}, (∀ p ∈ l, aG μ I (f p.2) (g p.2)) -> mi μ I (l.map fun p => (p.1, f p.2)) (l.map fun p => (p.1, g p.2))
 | [], _ => .nil
 | (i, x) :: l, h => .cons (h _ (by simp)) (mi.map fun p hp => h p (by simp [hp]))
theorem mJ {place : Nat -> Option (Nat × Nat)} : ∀ {parts : List (Nat × AV)} {parts' : List (Nat × Value)} {cells out : List AV} {cells' : Array Value},
  eP place cells parts = some out -> mi μ I parts parts' -> aL μ I cells cells'.toList ->
  ∃ out', Instr.fill place cells' parts' = some out' /\ aL μ I out out'.toList
 | [], _, cells, out, cells', e, .nil, r => by simp [eP] at e; subst e; exact ⟨cells', rfl, r⟩
 | (i, a) :: rest, _, cells, out, cells', e, .cons (v := v) q qs, r => by
  unfold eP at e
  have hb : a ≠ .bad := by intro hq; subst hq; simp at e
  have e : (match place i with
   | none => none
   | some (off, size) => cond (Nat.beq a.cells.length size && Nat.ble (off + a.cells.length) cells.length) (eP place (a9.aB cells off a.cells) rest) none) = some out := by
   cases a <;> first | exact absurd rfl hb | exact e
  unfold Instr.fill
  cases hp : place i with
  | none => rw [hp] at e; cases e
  | some os =>
   obtain ⟨off, size⟩ := os
   rw [hp] at e
   simp only at e
   obtain ⟨hc, e⟩ := aJ e
   simp only [Bool.and_eq_true] at hc
   have h1 := aq hc.1
   have h2 := Nat.le_of_ble_eq_true hc.2
   have qc := q.cells hb
   have l1 := qc.length
   have l2 := r.length
   simp only [Array.length_toList] at l1 l2
   have hno : (decide (v.cells.size ≠ size) || decide (off + v.cells.size > cells'.size)) = false := by
    simp; omega
   simp only [hno, Bool.false_eq_true, if_false]
   refine mJ e qs ?_
   rw [qY _ _ _ (by omega)]
   have := r.aB (off := off) qc
   simpa using this
theorem og : ∀ {fields : List Field} {l : List (Nat × Nat)}, placesOf P fields = some l -> ∀ w : World, (fields.mapM fun f => do pure (f.offset, <- sizeOf f.type) : Sem (List (Nat × Nat))).run P w = .ok l w
 | [], l, e, w => by simp [placesOf] at e; subst e; simp
 | f :: fs, l, e, w => by
  unfold placesOf at e
  cases h1 : aA P f.type with
  | none => rw [h1] at e; cases e
  | some s =>
   rw [h1] at e
   cases h2 : placesOf P fs with
   | none => rw [h2] at e; cases e
   | some m =>
    rw [h2] at e
    simp at e
    subst e
    have ih := og h2 w
    simp only [List.mapM_cons, Sem.run_bind, run_sizeOf h1, Result.andThen_ok, Sem.run_pure, ih]
theorem zx {t : TypeId} {parts : List (Nat × AV)} {parts' : Array (Nat × Value)} {v : AV} (e : tu P t parts = some v) (q : mi μ I parts parts'.toList) (w : World) :
  ∃ u, (Instr.build t parts').run P w = .ok u w /\ aG μ I v u := by
 unfold tu at e
 unfold Instr.build
 cases hz : fP P t with
 | none => rw [hz] at e; cases e
 | some z =>
  rw [hz] at e
  obtain ⟨i, zv, hi, hzv, rfl, hrun⟩ := cK (P := P) hz w
  cases hu : P.underlying t with
  | none => rw [hu] at e; split at e <;> cases e
  | some d =>
   rw [hu] at e
   have hr : aG μ I (x8 zv) zv := gM zv
   split at e
   case h_2 => cases e
   rename_i zc hzc
   simp at hzc
   rw [hzc] at hr
   have hzc' : aL μ I zc zv.cells.toList := hr.cells (by simp)
   cases d <;> simp only at e <;> try cases e
   case array n elem =>
    cases hs : aA P elem with
    | none => rw [hs] at e; cases e
    | some s =>
     rw [hs] at e
     simp only at e
     cases hf : eP (fun i => some (i * s, s)) zc parts with
     | none => rw [hf] at e; cases e
     | some out =>
      rw [hf] at e
      simp at e
      subst e
      obtain ⟨out', h1, h2⟩ := mJ hf q hzc'
      exact ⟨.agg out', by simp [hrun, run_underlying hu, run_sizeOf hs, h1], .agg h2⟩
   case struct fields =>
    cases hp : placesOf P fields.toList with
    | none => rw [hp] at e; cases e
    | some l =>
     rw [hp] at e
     simp only at e
     cases hf : eP (fun i => l[i]?) zc parts with
     | none => rw [hf] at e; cases e
     | some out =>
      rw [hf] at e
      simp at e
      subst e
      obtain ⟨out', h1, h2⟩ := mJ hf q hzc'
      refine ⟨.agg out', ?_, .agg h2⟩
      have hm := og (P := P) hp w
      simp only [Sem.run_bind, hrun, Result.andThen_ok, run_underlying hu]
      rw [Array.mapM_eq_mapM_toList]
      simp only [Sem.run_map, hm, Result.andThen_ok]
      simp [h1]
end
end Go.a9
namespace Go.a9
section
variable {P : Program} {μ : Mu} {I : fu} {w0 w : World} {h : ah}
theorem iM {α : Type} {f : α -> PUnit -> Sem (ForInStep PUnit)} : ∀ (l : List α), (∀ x ∈ l, (f x ⟨⟩).run P w = .ok (.yield ⟨⟩) w) -> (forIn l PUnit.unit f).run P w = .ok ⟨⟩ w
 | [], _ => by simp
 | x :: l, hx => by
  have h1 := hx x (by simp)
  have h2 := iM l (fun y hy => hx y (by simp [hy]))
  simp only [List.forIn_cons, Sem.run_bind, h1, Result.andThen_ok]
  exact h2
theorem mB {fl : Bool} (w : World) : ∀ (n : Nat) {t : TypeId} {v : AV} {u : Value}, sQ P n t v = true -> aG μ I v u -> (Instr.checkKey fl n t u).run P w = .ok () w
 | 0, t, v, u, e, r => by simp [sQ] at e
 | n + 1, t, v, u, e, r => by
  unfold sQ at e
  cases hu : P.underlying t with
  | none => rw [hu] at e; cases e
  | some d =>
   rw [hu] at e
   unfold Instr.checkKey
   simp only [Sem.run_bind, run_underlying hu, Result.andThen_ok]
   cases d
   case struct fields =>
    simp only at e
    split at e
    case h_2 => cases e
    cases r with | agg r => ?_
    rename_i cs us
    simp only [<- Array.forIn_toList]
    simp only [List.all_eq_true] at e
    simp only [Sem.run_bind]
    rw [iM (P := P) (w := w) fields.toList fun f hf => ?_]
    ·rfl
    have ef := e f hf
    by_cases hn : f.name = "_"
    ·simp [hn]
    ·simp only [hn, decide_false, Bool.false_or] at ef
     cases h1 : eD P f.type cs f.offset with
     | none => rw [h1] at ef; cases ef
     | some x =>
      rw [h1] at ef
      obtain ⟨p, q, s⟩ := gW (P := P) h1 r w
      have := mB w n ef s (fl := fl)
      simp [hn, q, this]
   case array len elem =>
    simp only at e
    split at e
    case h_2 => cases e
    cases r with | agg r => ?_
    rename_i cs us
    split at e
    case h_2 => cases e
    rename_i sz hs
    simp only [List.all_eq_true] at e
    simp only [Sem.run_bind]
    rw [Std.Legacy.Range.forIn_eq_forIn_range']
    simp only [Std.Legacy.Range.size, Nat.sub_zero, Nat.add_sub_cancel, Nat.div_one]
    rw [List.range_eq_range'] at e
    rw [iM (P := P) (w := w) (List.range' 0 len) fun i hi => ?_]
    ·rfl
    have ef := e i hi
    cases h1 : eD P elem cs (i * sz) with
    | none => rw [h1] at ef; cases ef
    | some x =>
     rw [h1] at ef
     obtain ⟨p, q, s⟩ := gW (P := P) h1 r w
     have := mB w n ef s (fl := fl)
     simp [run_sizeOf hs, q, this]
   case interface ms => cases e
   all_goals simp
theorem yM {d : TypeDesc} {x y : AV} {u v : Value} {b : Bool} (e : vF d x y = some b) (r : aG μ I x u) (q : aG μ I y v) : Instr.sameNow d u v = some b := by
 unfold vF at e
 split at e
 ·split at e
  ·cases r; cases q
   obtain ⟨h1, e'⟩ := aJ e
   simp at h1 e'
   subst h1
   subst e'
   simp [Instr.sameNow]
   rfl
  ·cases e
 ·split at e
  ·cases r; cases q
   simp at e; subst e
   simp [Instr.sameNow, pO]
  ·cases e
 ·split at e
  ·cases r; cases q
   simp at e; subst e
   simp [Instr.sameNow]
  ·cases e
 ·cases e
theorem vi {d : TypeDesc} (h : iC d = false) (u v : Value) : Instr.sameNow d u v = none := by
 cases d <;> first | (simp [iC] at h; done) | rfl
inductive wb (μ : Mu) (I : fu) (es : List dH) (ms : List MapEntry) (i0 : Nat) : Option (Nat × AV × AV) -> Option (Nat × Value) -> Prop
 | none : wb μ I es ms i0 none none
 | some {i : Nat} {k v : AV} {u x : Value} {m : MapEntry} : ms[i]? = some m -> m.key = x -> m.val = u -> aG μ I k x -> aG μ I v u -> wb μ I es ms i0 (some (i0 + i, k, v)) (some (i0 + i, u))
theorem uN {kt : TypeId} {d : TypeDesc} {x : AV} {u : Value} (hd : iC d = true) (r : aG μ I x u) : ∀ {es : List dH} {ms : List MapEntry} {i : Nat} {o : Option (Nat × AV × AV)}, j5 P kt d x es i = some o -> g7 μ I es ms ->
  ∃ p, Instr.findNow d u ms i = some p /\ wb μ I es ms i o p
 | [], _, i, o, e, .nil => by simp [j5] at e; subst e; exact ⟨none, rfl, .none⟩
 | a :: es, c :: ms, i, o, e, .cons hk hv hb hr => by
  unfold j5 BH at e
  simp only [hd, cond_true] at e
  unfold Instr.findNow
  cases hn : vF d x a.key with
  | none => rw [hn] at e; cases e
  | some b =>
   rw [hn] at e
   rw [yM hn r hk]
   cases b with
   | true => simp at e; subst e; exact ⟨_, rfl, wb.some (i := 0) (m := c) rfl rfl rfl hk hv⟩
   | false =>
    simp only at e ⊢
    obtain ⟨p, h1, h2⟩ := uN hd r e hr
    refine ⟨p, h1, ?_⟩
    cases h2 with
    | none => exact .none
    | some hm h3 h4 h5 h6 =>
     rename_i j k v u' x' m
     rw [show i + 1 + j = i + (j + 1) by omega]
     exact wb.some (i := j + 1) (m := m) (by simpa using hm) h3 h4 h5 h6
theorem oC {kt : TypeId} {d : TypeDesc} {x : AV} {u : Value} (hd : iC d = false) (r : aG μ I x u) (w : World) : ∀ {es : List dH} {ms : List MapEntry} {i : Nat} {o : Option (Nat × AV × AV)}, j5 P kt d x es i = some o -> g7 μ I es ms ->
  ∃ p, (Instr.findAsking kt u ms i).run P w = .ok p w /\ wb μ I es ms i o p
 | [], _, i, o, e, .nil => by simp [j5] at e; subst e; exact ⟨none, by simp [Instr.findAsking], .none⟩
 | a :: es, c :: ms, i, o, e, .cons hk hv hb hr => by
  unfold j5 BH at e
  simp only [hd, cond_false] at e
  unfold Instr.findAsking
  cases hn : dD P 10000 kt x a.key with
  | none => rw [hn] at e; cases e
  | some b =>
   rw [hn] at e
   have hq : (Op.equal kt u c.key).run P w = .ok b w := pU 10000 hn r hk w
   simp only [Sem.run_bind, hq, Result.andThen_ok]
   cases b with
   | true => simp at e; subst e; exact ⟨some (i, c.val), by simp, wb.some (i := 0) (m := c) rfl rfl rfl hk hv⟩
   | false =>
    simp only at e
    obtain ⟨p, h1, h2⟩ := oC hd r w e hr
    refine ⟨p, by simpa using h1, ?_⟩
    cases h2 with
    | none => exact .none
    | some hm h3 h4 h5 h6 =>
     rename_i j k v u' x' m
     rw [show i + 1 + j = i + (j + 1) by omega]
     exact wb.some (i := j + 1) (m := m) (by simpa using hm) h3 h4 h5 h6
theorem qD {kt : TypeId} {d : TypeDesc} {x : AV} {u : Value} (hk : P.underlying kt = some d) (r : aG μ I x u) (w : World) {es : List dH} {ms : List MapEntry} {o : Option (Nat × AV × AV)} (e : j5 P kt d x es 0 = some o) (he : g7 μ I es ms) :
  ∃ p, (Instr.findKey kt u ms).run P w = .ok p w /\ wb μ I es ms 0 o p := by
 unfold Instr.findKey
 simp only [Sem.run_bind, run_underlying hk, Result.andThen_ok]
 cases hd : iC d with
 | true =>
  obtain ⟨p, h1, h2⟩ := uN (P := P) hd r e he
  exact ⟨p, by rw [h1]; rfl, h2⟩
 | false =>
  cases he with
  | nil => simp [j5] at e; subst e; exact ⟨none, by simp [Instr.findNow], .none⟩
  | cons h1 h2 h3 h4 =>
   rename_i a c es ms
   obtain ⟨p, h5, h6⟩ := oC (P := P) hd r w e (.cons h1 h2 h3 h4)
   refine ⟨p, ?_, h6⟩
   simp only [Instr.findNow, vi hd]
   exact h5
theorem sM {t kt et : TypeId} {d : TypeDesc} (e : mapOf P t = some (kt, d, et)) : P.underlying t = some (.map kt et) /\ P.underlying kt = some d := by
 unfold mapOf at e
 split at e
 case h_2 => cases e
 rename_i k el hu
 cases hk : P.underlying k with
 | none => rw [hk] at e; cases e
 | some q => rw [hk] at e; cases e; exact ⟨hu, hk⟩
theorem xV (W : bL μ I w0 h w) {t : TypeId} {x ix v : AV} {u ui : Value} {ok : Bool} (e : mI P h t x ix ok = some v) (r : aG μ I x u) (q : aG μ I ix ui) :
  ∃ z, (Instr.lookup t u ui ok).run P w = .ok z w /\ aG μ I v z := by
 unfold mI at e
 split at e
 case h_2 => cases e
 rename_i kt d et hm
 obtain ⟨ht, hk⟩ := sM hm
 cases he : entriesOf h x with
 | none => rw [he] at e; cases e
 | some es =>
  rw [he] at e
  obtain ⟨hok, e⟩ := aJ e
  have hent : ∃ l : Array MapEntry, g7 μ I es l.toList /\ ((u = .map none /\ l = #[]) \/ ∃ B ck, u = .map (some B) /\ (getObj B).run P w = .ok (.map l ck) w) := by
   unfold entriesOf at he
   split at he
   ·cases r; cases he; exact ⟨#[], .nil, .inl ⟨rfl, rfl⟩⟩
   ·rename_i b
    cases r with | map hmu => ?_
    rename_i B o N
    split at he
    case h_2 => cases he
    rename_i es' ck hb
    cases he
    obtain ⟨obj, ho, hr⟩ := W.bj _ _ _ _ _ hb hmu
    cases hr with | map hes => ?_
    rename_i l
    exact ⟨l, hes, .inr ⟨B, ck, rfl, by simp [getObj, Sem.run, ho]⟩⟩
   ·cases he
  obtain ⟨l, hes, hl⟩ := hent
  have hck : ∀ fl, (Instr.checkKey fl 10000 kt ui).run P w = .ok () w := fun fl => mB w 10000 hok q
  cases hf : j5 P kt d ix es 0 with
  | none => rw [hf] at e; cases e
  | some o =>
   rw [hf] at e
   obtain ⟨p, h1, h2⟩ := qD hk q w hf hes
   cases h2 with
   | none =>
    simp only at e
    cases hz : fP P et with
    | none => rw [hz] at e; cases e
    | some z =>
     rw [hz] at e
     obtain ⟨i, zv, hi, hzv, rfl, hrun⟩ := cK (P := P) hz w
     simp at e
     subst e
     refine ⟨if ok = true then .tuple #[zv, .bool false] else zv, ?_, ?_⟩
     ·rcases hl with ⟨rfl, rfl⟩ | ⟨B, ck, rfl, hg⟩
      ·simp at h1
       simp [Instr.lookup, run_underlying ht, hck, h1, hrun]
      ·simp [Instr.lookup, run_underlying ht, hg, hck, h1, hrun]
     ·cases ok with
      | true => exact .tuple (.cons (gM zv) (.cons (.bool _) .nil))
      | false => exact gM zv
   | some hm h3 h4 h5 h6 =>
    simp at e
    subst e
    rename_i u' x' m
    refine ⟨if ok = true then .tuple #[u', .bool true] else u', ?_, ?_⟩
    ·rcases hl with ⟨rfl, rfl⟩ | ⟨B, ck, rfl, hg⟩
     ·simp at hm
     ·simp [Instr.lookup, run_underlying ht, hg, hck, h1]
    ·cases ok with
     | true => exact .tuple (.cons h6 (.cons (.bool _) .nil))
     | false => exact h6
end
end Go.a9
namespace Go.a9
open Go.RowKit (Below)
section
variable {P : Program} {μ : Mu} {I : fu} {w0 w : World} {h : ah}
theorem Cf (W : bL μ I w0 h w) {t : TypeId} {x v : AV} {u : Value} {ts : Array TypeId} (ht : ts[0]? = some t) (ty : TypeId) (e : rf P h t x = some v) (r : aG μ I x u) :
  ∃ y, (Builtin.len_ ts ty #[u]).run P w = .ok y w /\ aG μ I v y := by
 unfold rf at e
 unfold Builtin.len_
 simp only [ht]
 cases hu : P.underlying t with
 | none => rw [hu] at e; cases e
 | some d =>
  rw [hu] at e
  cases d <;> simp only at e <;> first | (cases e; done) | skip
  case string =>
   cases r <;> simp only at e <;> try cases e
   exact ⟨_, by simp [run_underlying hu]; rfl, .int _ _⟩
  case array n el =>
   simp at e
   subst e
   exact ⟨_, by simp [run_underlying hu]; rfl, .int _ _⟩
  case slice el =>
   cases r <;> simp only at e <;> try cases e
   all_goals exact ⟨_, by simp [run_underlying hu]; rfl, .int _ _⟩
  case map k el =>
   cases r <;> simp only at e <;> try cases e
   case fK => exact ⟨_, by simp [run_underlying hu]; rfl, .int _ _⟩
   case map b B o N hm =>
    cases hb : h.get b with
    | none => rw [hb] at e; cases e
    | some ob =>
     rw [hb] at e
     split at e
     case h_2 => cases e
     case h_1 es ck hq =>
      cases hq
      simp at e
      subst e
      obtain ⟨obj, ho, hr⟩ := W.bj _ _ _ _ _ hb hm
      cases hr with
      | map hes =>
       rename_i l
       have hlen : es.length = l.size := by
        rw [<- Array.length_toList]
        clear ho hb
        generalize l.toList = m at hes
        induction hes with
        | nil => rfl
        | cons _ _ _ _ ih => simp [ih]
       refine ⟨.int .i64 l.size, ?_, by rw [hlen]; exact .int _ _⟩
       have hg : (getObj B).run P w = .ok (.map l ck) w := by
        simp [getObj, Sem.run, ho]
       simp [run_underlying hu, hg, goInt]
theorem pI {f : AV -> AV -> Option AV} {g : Value -> Value -> Sem Value} (hf : ∀ a b c u v, f a b = some c -> aG μ I a u -> aG μ I b v -> ∃ z, (g u v).run P w = .ok z w /\ aG μ I c z) :
  ∀ {l : List AV} {m : List Value} {a c : AV} {u : Value}, qC f a l = some c -> aG μ I a u -> aL μ I l m -> ∃ z, (m.foldlM g u).run P w = .ok z w /\ aG μ I c z
 | [], _, a, c, u, e, r, .nil => by simp [qC] at e; subst e; exact ⟨u, by simp, r⟩
 | b :: l, _, a, c, u, e, r, .cons (u := v) q qs => by
  unfold qC at e
  cases hb : f a b with
  | none => rw [hb] at e; cases e
  | some d =>
   rw [hb] at e
   obtain ⟨z, h1, h2⟩ := hf a b d u v hb r q
   obtain ⟨y, h3, h4⟩ := pI hf e h2 qs
   exact ⟨y, by simp [List.foldlM_cons, h1, h3], h4⟩
theorem A0 (a b c : AV) (u v : Value) (e : Ab a b = some c) (r : aG μ I a u) (q : aG μ I b v) : ∃ z, (Builtin.min2 u v).run P w = .ok z w /\ aG μ I c z := by
 unfold Ab at e
 split at e
 ·cases r; cases q
  rename_i k x j y
  simp at e
  subst e
  refine ⟨_, by simp [Builtin.min2]; rfl, ?_⟩
  by_cases hlt : y < x <;> simp [hlt] <;> exact .int _ _
 ·cases e
theorem A1 (a b c : AV) (u v : Value) (e : Ac a b = some c) (r : aG μ I a u) (q : aG μ I b v) : ∃ z, (Builtin.max2 u v).run P w = .ok z w /\ aG μ I c z := by
 unfold Ac at e
 split at e
 ·cases r; cases q
  rename_i k x j y
  simp at e
  subst e
  refine ⟨_, by simp [Builtin.max2]; rfl, ?_⟩
  by_cases hlt : x < y <;> simp [hlt] <;> exact .int _ _
 ·cases e
theorem oz {t : TypeId} (e : isIface P t = some false) : ∃ d, P.underlying t = some d /\ ∀ ms, d ≠ .interface ms := by
 unfold isIface at e
 cases hu : P.underlying t with
 | none => rw [hu] at e; cases e
 | some d =>
  rw [hu] at e
  refine ⟨d, rfl, fun ms q => ?_⟩
  subst q
  cases e
theorem qZ {x v : AV} {u : Value} {t xt : TypeId} {ok : Bool} (e : fk P x t ok = some v) (r : aG μ I x u) (w : World) :
  ∃ y, (Instr.typeAssert u xt t ok).run P w = .ok y w /\ aG μ I v y := by
 unfold fk at e
 unfold Instr.typeAssert
 have fails : ∀ (s d : Option TypeId) (m : String), cond ok ((fP P t).map fun z => AV.tuple [z, .bool false]) none = some v ->
   ∃ y, (if ok = true then (do pure (.tuple #[<- zeroValue t, .bool false])) else runtimePanic (.typeAssertion s d t m) : Sem Value).run P w = .ok y w /\ aG μ I v y := by
  intro s d m e
  obtain ⟨hk, e⟩ := aJ e
  subst hk
  cases hz : fP P t with
  | none => rw [hz] at e; simp at e
  | some z =>
   rw [hz] at e
   simp at e
   subst e
   obtain ⟨i, zv, hi, hzv, rfl, hrun⟩ := cK (P := P) hz w
   exact ⟨.tuple #[zv, .bool false], by simp [hrun], .tuple (.cons (gM _) (.cons (.bool _) .nil))⟩
 split at e
 case h_2 => cases e
 case h_1 hf =>
  obtain ⟨d, hu, hd⟩ := oz hf
  have e' := e
  clear e
  simp only [Sem.run_bind, run_underlying hu, Result.andThen_ok]
  cases r <;> simp only at e' <;> try cases e'
  case cW =>
   obtain ⟨y, h1, h2⟩ := fails (some xt) none "" e'
   refine ⟨y, ?_, h2⟩
   cases d <;> first | exact absurd rfl (hd _) | exact h1
  case iface t' a b r =>
   cases hb : Nat.beq t' t with
   | true =>
    rw [hb] at e'
    have hb := aq hb
    subst hb
    simp at e'
    subst e'
    cases ok with
    | true => exact ⟨.tuple #[b, .bool true], by cases d <;> first | exact absurd rfl (hd _) | simp, .tuple (.cons r (.cons (.bool _) .nil))⟩
    | false => exact ⟨b, by cases d <;> first | exact absurd rfl (hd _) | simp, r⟩
   | false =>
    rw [hb] at e'
    have hb := Cc hb
    simp only [cond_false] at e'
    obtain ⟨y, h1, h2⟩ := fails (some xt) (some t') "" e'
    refine ⟨y, ?_, h2⟩
    cases d <;> first | exact absurd rfl (hd _) | (simp only [hb, if_false]; exact h1)
theorem tP.Bz {tm : Tr AV} {ρ : Operand -> Value} {x : Option Operand} (hx : ∀ y ∈ x.toList, aG μ I (evalOp tm y) (ρ y)) : tP μ I (fA tm x) (x.map ρ) := by
 cases x with
 | none => exact .none
 | some y => exact .some (hx y (by simp))
theorem tf (W : bL μ I w0 h w) {tm : Tr AV} {ρ : Operand -> Value} {o : Oper} {v : AV} (e : bz P h tm o = some v)
  (hop : ∀ x ∈ o.op.operands.toList, aG μ I (evalOp tm x) (ρ x)) : ∃ u, (execOp ρ o).run P w = .ok (.value u) w /\ aG μ I v u := by
 obtain ⟨dst, op, type, pos, after, guard⟩ := o
 unfold bz at e
 unfold execOp
 have lift : ∀ {s : Sem Value}, (∃ u, s.run P w = .ok u w /\ aG μ I v u) -> ∃ u, (do pure (.value (<- s)) : Sem Next).run P w = .ok (.value u) w /\ aG μ I v u := by
  rintro s ⟨u, h1, h2⟩
  exact ⟨u, by simp [h1], h2⟩
 cases op <;> simp only at e hop ⊢ <;> try cases e
 case move x => exact ⟨_, rfl, hop x (by simp [Op.operands])⟩
 case assign x => exact ⟨_, rfl, hop x (by simp [Op.operands])⟩
 case pick c a b =>
  have hc := hop c (by simp [Op.operands])
  unfold pick at e
  split at e
  ·rename_i hq; rw [hq] at hc; simp at e; subst e
   generalize ρ c = rc at hc; cases hc
   exact ⟨ρ a, by simp [asBool], hop a (by simp [Op.operands])⟩
  ·rename_i hq; rw [hq] at hc; simp at e; subst e
   generalize ρ c = rc at hc; cases hc
   exact ⟨ρ b, by simp [asBool], hop b (by simp [Op.operands])⟩
  ·cases e
 case build t parts =>
  refine lift (zx e ?_ w)
  have := mi.map (μ := μ) (I := I) (f := evalOp tm) (g := ρ) (l := parts.toList) (fun p hp => hop p.2 (by simp [Op.operands]; exact ⟨p.1, by simpa using hp⟩))
  simpa using this
 case load t a => exact lift (uU W e (hop a (by simp [Op.operands])))
 case nilCheck x =>
  have hx := hop x (by simp [Op.operands])
  split at e <;> try cases e
  ·rename_i hq; rw [hq] at hx; generalize ρ x = r at hx ⊢; cases hx
   exact ⟨_, rfl, .ptr (by assumption)⟩
  ·rename_i hq; rw [hq] at hx; generalize ρ x = r at hx ⊢; cases hx
   exact ⟨_, rfl, .fT (by assumption)⟩
  ·rename_i hq; rw [hq] at hx; generalize ρ x = r at hx ⊢; cases hx
   exact ⟨_, rfl, .func (by assumption) (by assumption)⟩
  ·rename_i hq; rw [hq] at hx; generalize ρ x = r at hx ⊢; cases hx
   exact ⟨_, rfl, .aF (by assumption)⟩
 case binOp op t x y yt =>
  obtain ⟨z, h1, h2⟩ := Ci (w := w) e (hop x (by simp [Op.operands])) (hop y (by simp [Op.operands]))
  exact lift ⟨z, h1, h2⟩
 case unOp op t x => exact lift (CW e (hop x (by simp [Op.operands])) w)
 case convert s t x => exact lift (A4 e (hop x (by simp [Op.operands])) w)
 case makeInterface t x =>
  refine lift ?_
  unfold Instr.makeInterface
  split at e
  case h_2 => cases e
  case h_1 hf =>
   obtain ⟨d, hu, hd⟩ := oz hf
   simp at e
   subst e
   refine ⟨.iface t (ρ x), ?_, .iface (hop x (by simp [Op.operands]))⟩
   cases d <;> first | exact absurd rfl (hd _) | simp [run_underlying hu]
 case makeFunc fn first captured =>
  cases fn <;> simp only at e <;> try cases e
  rename_i f
  refine ⟨.func (.func f) (first.map ρ) (captured.map ρ), rfl, .func ?_ ?_⟩
  ·have := aL.map (μ := μ) (I := I) (f := evalOp tm) (g := ρ) (l := first.toList) (fun y hy => hop y (by simp [Op.operands]; left; simpa using hy))
   simpa using this
  ·have := aL.map (μ := μ) (I := I) (f := evalOp tm) (g := ρ) (l := captured.toList) (fun y hy => hop y (by simp [Op.operands]; right; simpa using hy))
   simpa using this
 case slice t x lo hi mx =>
  cases mx with
  | some m => cases e
  | none =>
   refine lift (zi W e (hop x (by simp [Op.operands])) (tP.Bz ?_) (tP.Bz ?_))
   ·intro y hy; exact hop y (by cases lo <;> simp_all [Op.operands])
   ·intro y hy; exact hop y (by cases hi <;> simp_all [Op.operands])
 case fieldAddr t x f => exact lift (tj e (hop x (by simp [Op.operands])) w)
 case field t x f => exact lift (zt e (hop x (by simp [Op.operands])) w)
 case indexAddr t x i => exact lift (tg e (hop x (by simp [Op.operands])) (hop i (by simp [Op.operands])) w)
 case index t x i => exact lift (zp e (hop x (by simp [Op.operands])) (hop i (by simp [Op.operands])) w)
 case typeAssert x xt t ok => exact lift (qZ e (hop x (by simp [Op.operands])) w)
 case lookup t x ix ok => exact lift (xV W e (hop x (by simp [Op.operands])) (hop ix (by simp [Op.operands])))
 case extract x i =>
  have hx := hop x (by simp [Op.operands])
  refine lift ?_
  unfold Instr.extract
  split at e
  ·rename_i vs hq
   rw [hq] at hx; generalize ρ x = r at hx ⊢; cases hx with
   | tuple hr =>
    rename_i us
    obtain ⟨z, h1, h2⟩ := hr.get e
    have h1' : us[i]? = some z := by simpa using h1
    exact ⟨z, by simp [h1'], h2⟩
  ·cases e
 case call c =>
  obtain ⟨callee, args, argTypes⟩ := c
  cases callee <;> simp only at e <;> try cases e
  rename_i b
  have hargs : aL μ I (args.toList.map (evalOp tm)) (args.toList.map ρ) := aL.map fun y hy => hop y (by simp [Op.operands, Call.operands]; simpa using hy)
  have hrun : ∀ s : Sem Value, (∃ u, s.run P w = .ok u w /\ aG μ I v u) -> (∀ cs, builtin b argTypes type cs (args.map ρ) = (do pure (.value (<- s)))) ->
    ∃ u, (do let d <- resolve ρ { callee := .builtin b, args, argTypes } type; invoke d.target d.args).run P w = .ok (.value u) w /\ aG μ I v u := by
   rintro s ⟨u, h1, h2⟩ hb
   refine ⟨u, ?_, h2⟩
   simp only [resolve, Sem.run_bind, Sem.run_pure, Result.andThen_ok, invoke]
   rw [hb]
   simp [h1]
  split at e
  ·rename_i x hx
   split at e
   ·rename_i t ts hts
    rw [hx] at hargs
    simp only [List.map_cons, List.map_nil] at hargs
    cases hargs with
    | cons h1 h2 =>
    obtain ⟨y, h3, h4⟩ := Cf (P := P) W (ts := argTypes) (by rw [<- Array.getElem?_toList, hts]; rfl) type e h1
    refine hrun _ ⟨y, h3, h4⟩ fun cs => ?_
    have : args.map ρ = #[ρ x] := by apply Array.ext'; simp [hx]
    rw [this]; rfl
   ·cases e
  ·rename_i x xs hx
   rw [hx] at hargs
   simp only [List.map_cons] at hargs
   cases hargs with
   | cons h1 h2 =>
   obtain ⟨y, h3, h4⟩ := pI (P := P) (w := w) (g := Builtin.min2) (fun a b c u v => A0 a b c u v) e h1 h2
   refine hrun (Builtin.min_ argTypes type (args.map ρ)) ⟨y, ?_, h4⟩ fun cs => rfl
   unfold Builtin.min_
   simp only [Array.toList_map, hx, List.map_cons]
   exact h3
  ·rename_i x xs hx
   rw [hx] at hargs
   simp only [List.map_cons] at hargs
   cases hargs with
   | cons h1 h2 =>
   obtain ⟨y, h3, h4⟩ := pI (P := P) (w := w) (g := Builtin.max2) (fun a b c u v => A1 a b c u v) e h1 h2
   refine hrun (Builtin.max_ argTypes type (args.map ρ)) ⟨y, ?_, h4⟩ fun cs => rfl
   unfold Builtin.max_
   simp only [Array.toList_map, hx, List.map_cons]
   exact h3
  ·cases e
end
end Go.a9
namespace Go.a9
open Go.RowKit (Below)
def gH (μ : Mu) (b : Nat) (x : Nat × Nat × Nat) : Mu := fun c => if c = b then some x else μ c
theorem bR (μ : Mu) (b : Nat) (x : Nat × Nat × Nat) : gH μ b x b = some x := by simp [gH]
theorem dN (μ : Mu) {b c : Nat} (x : Nat × Nat × Nat) (h : c ≠ b) : gH μ b x c = μ c := by simp [gH, h]
theorem Ext.gH {μ : Mu} {I : fu} {b : Nat} {x : Nat × Nat × Nat} (h : μ b = none) : Ext μ (a9.gH μ b x) I I :=
 ⟨fun c y e => by
  by_cases hc : c = b
  ·subst hc; rw [h] at e; cases e
  ·rw [dN _ _ hc]; exact e, fun _ _ _ e => e⟩
section
variable {μ μ' : Mu} {I I' : fu}
theorem zA.mono (x : Ext μ μ' I I') {a : iZ} {d : Deferred} (h : zA μ I a d) : zA μ' I' a d := by
 cases h with
 | func h => exact .func (h.mono x)
 | collected h => exact .collected (x.mu _ _ h)
theorem kO.mono (x : Ext μ μ' I I') {a : List iZ} {d : List Deferred} (h : kO μ I a d) : kO μ' I' a d := by
 induction h with
 | nil => exact .nil
 | cons h _ ih => exact .cons (h.mono x) ih
theorem kO.append {a b : List iZ} {c d : List Deferred} (h : kO μ I a c) (g : kO μ I b d) : kO μ I (a ++ b) (c ++ d) := by
 induction h with
 | nil => exact g
 | cons h _ ih => exact .cons h ih
theorem h9.mono (x : Ext μ μ' I I') {tm : Tr AV} {t : Array Value} (h : h9 μ I tm t) : h9 μ' I' tm t := fun k v e => (h k v e).mono x
theorem wa.mono (x : Ext μ μ' I I') {a : fS} {c : Loop} (h : wa μ I a c) : wa μ' I' a c :=
 ⟨h.state, h.pending, h.fn, h.nt, h.tm.mono x, h.params, h.assign, h.body, by obtain ⟨o, N, e⟩ := h.defers; exact ⟨o, N, x.mu _ _ e⟩⟩
theorem g7.mono (x : Ext μ μ' I I') {a : List dH} {d : List MapEntry} (h : g7 μ I a d) : g7 μ' I' a d := by
 induction h with
 | nil => exact .nil
 | cons h g b _ ih => exact .cons (h.mono x) (g.mono x) b ih
theorem kR.mono (x : Ext μ μ' I I') {a : fO} {o N : Nat} {ob : Obj} (h : kR μ I a o N ob) : kR μ' I' a o N ob := by
 cases h with
 | cells h1 h2 h3 => exact .cells h1 h2 fun i a e => let ⟨v, hv, hr⟩ := h3 i a e; ⟨v, hv, hr.mono x⟩
 | map h => exact .map (h.mono x)
 | loop h => exact .loop (h.mono x)
 | kE => exact .kE
 | iy h => exact .iy (h.mono x)
end
def _root_.Go.World.bV (w : World) (B : Nat) (ob : Obj) : World := { w with heap := w.heap.setIfInBounds B ob }
def _root_.Go.World.bn (w : World) (ob : Obj) : World := { w with heap := w.heap.push ob }
section
variable {P : Program} {μ : Mu} {I : fu} {w0 w : World} {h : ah}
theorem cH (w : World) (B C : Nat) (ob : Obj) (hB : B < w.heap.size) : (w.bV B ob).heap[C]? = if C = B then some ob else w.heap[C]? := by
 simp only [World.bV, Array.getElem?_setIfInBounds]
 by_cases e : C = B
 ·subst e; simp [hB]
 ·rw [if_neg (fun q => e q.symm), if_neg e]
theorem gK (w : World) (B : Nat) (ob : Obj) : (w.bV B ob).heap.size = w.heap.size := by simp [World.bV]
theorem gL (w : World) (C : Nat) (ob : Obj) : (w.bn ob).heap[C]? = if C = w.heap.size then some ob else w.heap[C]? := by
 simp only [World.bn, Array.getElem?_push]
theorem fz (w : World) (ob : Obj) : (w.bn ob).heap.size = w.heap.size + 1 := by simp [World.bn]
theorem ta {w w' : World} {B o : Nat} (h : w'.heap[B]? = w.heap[B]?) : w'.cell? ⟨B, o, none⟩ = w.cell? ⟨B, o, none⟩ := by
 simp [World.cell?, h]
theorem B8 {w : World} {B o : Nat} {v : Value} (h : w.cell? ⟨B, o, none⟩ = some v) : B < w.heap.size := by
 unfold World.cell? at h
 cases hb : w.heap[B]? with
 | none => simp [hb] at h
 | some x => exact (Array.getElem?_eq_some_iff.1 hb).1
theorem bL.drew (W : bL μ I w0 h w) (n : Nat) : bL μ I w0 h { w with drawn := n } :=
 ⟨⟨W.below.os, W.below.tape, W.below.output, W.below.size, W.below.block⟩, W.live, W.mapped, W.bj, W.inj, W.wc⟩
theorem bL.kill (W : bL μ I w0 h w) (b : Nat) : bL μ I w0 (h.kill b) w := by
 have hk : ∀ c ob, (h.kill b).get c = some ob -> h.get c = some ob := by
  intro c ob e; rw [ah.bO] at e; split at e
  ·cases e
  ·exact e
 exact ⟨W.below, fun c ob e => W.live c ob (hk c ob e), W.mapped, fun c ob B o N e m => W.bj c ob B o N (hk c ob e) m,
  fun c c' ob ob' B o N o' N' e e' => W.inj c c' ob ob' B o N o' N' (hk _ _ e) (hk _ _ e'),
  fun B o v e => ⟨(W.wc B o v e).1, rfl, fun c ob o' N e' => (W.wc B o v e).2.2 c ob o' N (hk _ _ e')⟩⟩
theorem bL.fg (W : bL μ I w0 h w) : μ h.next = none := by
 cases e : μ h.next with
 | none => rfl
 | some x => obtain ⟨B, o, N⟩ := x; have := (W.mapped _ _ _ _ e).2.2; omega
theorem bL.new (W : bL μ I w0 h w) (ob : fO) : bL μ I w0 (h.new ob) w := by
 have hn := W.fg
 have hk : ∀ c o, (h.new ob).get c = some o -> (c = h.next \/ h.get c = some o) := by
  intro c o e; rw [ah.aQ] at e; split at e
  ·exact .inl ‹_›
  ·exact .inr e
 have hm : ∀ c o x, (h.new ob).get c = some o -> μ c = some x -> h.get c = some o := by
  intro c o x e m
  rcases hk c o e with rfl | q
  ·rw [hn] at m; cases m
  ·exact q
 refine ⟨W.below, fun c o e => ?_, fun b B o N e => ?_, fun c o B o' N e m => W.bj c o B o' N (hm _ _ _ e m) m,
  fun c c' o o' B x y z t e e' m m' => W.inj c c' o o' B x y z t (hm _ _ _ e m) (hm _ _ _ e' m') m m', fun B o v e => ⟨(W.wc B o v e).1, rfl, fun c ob' o' N e' m => (W.wc B o v e).2.2 c ob' o' N (hm _ _ _ e' m) m⟩⟩
 ·rcases hk c o e with rfl | q
  ·show h.next < h.next + 1; omega
  ·have := W.live _ _ q; show c < h.next + 1; omega
 ·obtain ⟨a, b', c⟩ := W.mapped _ _ _ _ e
  exact ⟨a, b', by show b < h.next + 1; omega⟩
theorem bL.push (W : bL μ I w0 h w) {b N : Nat} {ob : fO} {o : Obj} (hb : h.get b = some ob) (hm : μ b = none) (hr : kR (gH μ b (w.heap.size, 0, N)) I ob 0 N o) :
  bL (gH μ b (w.heap.size, 0, N)) I w0 h (w.bn o) := by
 have hx : Ext μ (gH μ b (w.heap.size, 0, N)) I I := .gH hm
 refine ⟨⟨W.below.os, W.below.tape, W.below.output, ?_, fun k hk => ?_⟩, W.live, fun c B o' N' e => ?_, fun c ob' B o' N' e m => ?_, fun c c' o1 o2 B x y z t e e' m m' => ?_, fun B o' v e => ?_⟩
 ·rw [fz]; have := W.below.size; omega
 ·rw [gL, if_neg (by have := W.below.size; omega)]; exact W.below.block k hk
 ·rw [fz]
  by_cases hc : c = b
  ·subst hc; rw [bR] at e; cases e
   exact ⟨W.below.size, by omega, W.live _ _ hb⟩
  ·rw [dN _ _ hc] at e
   obtain ⟨a1, a2, a3⟩ := W.mapped _ _ _ _ e
   exact ⟨a1, by omega, a3⟩
 ·by_cases hc : c = b
  ·subst hc; rw [bR] at m; cases m
   rw [hb] at e; cases e
   exact ⟨o, by rw [gL, if_pos rfl], hr⟩
  ·rw [dN _ _ hc] at m
   obtain ⟨q, h1, h2⟩ := W.bj _ _ _ _ _ e m
   have := (W.mapped _ _ _ _ m).2.1
   exact ⟨q, by rw [gL, if_neg (by omega)]; exact h1, h2.mono hx⟩
 ·by_cases hc : c = b
  ·by_cases hc' : c' = b
   ·rw [hc, hc']
   ·subst hc; rw [bR] at m; cases m
    rw [dN _ _ hc'] at m'
    have := (W.mapped _ _ _ _ m').2.1; omega
  ·rw [dN _ _ hc] at m
   by_cases hc' : c' = b
   ·subst hc'; rw [bR] at m'; cases m'
    have := (W.mapped _ _ _ _ m).2.1; omega
   ·rw [dN _ _ hc'] at m'
    exact W.inj _ _ _ _ _ _ _ _ _ e e' m m'
 ·obtain ⟨h1, _, h2⟩ := W.wc _ _ _ e
  have hlt := B8 h1
  refine ⟨by rw [ta (w := w)]; exact h1; rw [gL, if_neg (by omega)], rfl, fun c ob' o'' N' e' m => ?_⟩
  by_cases hc : c = b
  ·subst hc; rw [bR] at m; cases m; omega
  ·rw [dN _ _ hc] at m; exact h2 _ _ _ _ e' m
theorem bL.update (W : bL μ I w0 h w) {b B o N : Nat} {ob ob' : fO} {q : Obj} (hb : h.get b = some ob) (hm : μ b = some (B, o, N)) (hr : kR μ I ob' o N q) :
  bL μ I w0 (h.set b ob') (w.bV B q) := by
 obtain ⟨b1, b2, b3⟩ := W.mapped _ _ _ _ hm
 have hk : ∀ c x, (h.set b ob').get c = some x -> (c = b /\ x = ob') \/ (c ≠ b /\ h.get c = some x) := by
  intro c x e; rw [ah.aP] at e; split at e
  ·cases e; exact .inl ⟨‹_›, rfl⟩
  ·exact .inr ⟨‹_›, e⟩
 have hex : ∀ c x, (h.set b ob').get c = some x -> ∃ y, h.get c = some y := by
  intro c x e; rcases hk c x e with ⟨rfl, _⟩ | ⟨_, q⟩
  ·exact ⟨_, hb⟩
  ·exact ⟨_, q⟩
 refine ⟨⟨W.below.os, W.below.tape, W.below.output, by rw [gK]; exact W.below.size, fun k hk => ?_⟩, fun c x e => ?_, fun c B' o' N' e => ?_, fun c x B' o' N' e m => ?_, fun c c' o1 o2 B' x y z t e e' m m' => ?_, fun B' o' v e => ?_⟩
 ·rw [cH _ _ _ _ b2, if_neg (by omega)]; exact W.below.block k hk
 ·obtain ⟨y, hy⟩ := hex _ _ e; exact W.live _ _ hy
 ·rw [gK]; exact W.mapped _ _ _ _ e
 ·rcases hk c x e with ⟨rfl, rfl⟩ | ⟨hc, hx⟩
  ·rw [hm] at m; cases m
   exact ⟨q, by rw [cH _ _ _ _ b2, if_pos rfl], hr⟩
  ·obtain ⟨p, h1, h2⟩ := W.bj _ _ _ _ _ hx m
   refine ⟨p, ?_, h2⟩
   rw [cH _ _ _ _ b2, if_neg ?_]
   ·exact h1
   ·intro e'; subst e'; exact hc (W.inj _ _ _ _ _ _ _ _ _ hx hb m hm)
 ·obtain ⟨y, hy⟩ := hex _ _ e
  obtain ⟨y', hy'⟩ := hex _ _ e'
  exact W.inj _ _ _ _ _ _ _ _ _ hy hy' m m'
 ·obtain ⟨h1, _, h2⟩ := W.wc _ _ _ e
  have hne : B' ≠ B := fun q => by subst q; exact h2 _ _ _ _ hb hm
  refine ⟨by rw [ta (w := w)]; exact h1; rw [cH _ _ _ _ b2, if_neg hne], rfl, fun c x o'' N' e' m => ?_⟩
  obtain ⟨y, hy⟩ := hex _ _ e'
  exact h2 _ _ _ _ hy m
theorem bL.take (W : bL μ I w0 h w) {b B o N : Nat} {ob : fO} {q : Obj} (hb : h.get b = some ob) (hm : μ b = none) (b1 : w0.heap.size <= B) (b2 : B < w.heap.size)
  (hfree : ∀ c x o' N', h.get c = some x -> μ c ≠ some (B, o', N')) (himm : ∀ o' v, I B o' ≠ some v) (hr : kR (gH μ b (B, o, N)) I ob o N q) :
  bL (gH μ b (B, o, N)) I w0 h (w.bV B q) := by
 have hx : Ext μ (gH μ b (B, o, N)) I I := .gH hm
 refine ⟨⟨W.below.os, W.below.tape, W.below.output, by rw [gK]; exact W.below.size, fun k hk => ?_⟩, W.live, fun c B' o' N' e => ?_, fun c x B' o' N' e m => ?_, fun c c' o1 o2 B' x y z t e e' m m' => ?_, fun B' o' v e => ?_⟩
 ·rw [cH _ _ _ _ b2, if_neg (by omega)]; exact W.below.block k hk
 ·rw [gK]
  by_cases hc : c = b
  ·subst hc; rw [bR] at e; cases e; exact ⟨b1, b2, W.live _ _ hb⟩
  ·rw [dN _ _ hc] at e; exact W.mapped _ _ _ _ e
 ·by_cases hc : c = b
  ·subst hc; rw [bR] at m; cases m; rw [hb] at e; cases e
   exact ⟨q, by rw [cH _ _ _ _ b2, if_pos rfl], hr⟩
  ·rw [dN _ _ hc] at m
   obtain ⟨p, h1, h2⟩ := W.bj _ _ _ _ _ e m
   refine ⟨p, ?_, h2.mono hx⟩
   rw [cH _ _ _ _ b2, if_neg ?_]
   ·exact h1
   ·intro e'; subst e'; exact hfree _ _ _ _ e m
 ·by_cases hc : c = b
  ·by_cases hc' : c' = b
   ·rw [hc, hc']
   ·subst hc; rw [bR] at m; cases m
    rw [dN _ _ hc'] at m'
    exact (hfree _ _ _ _ e' m').elim
  ·rw [dN _ _ hc] at m
   by_cases hc' : c' = b
   ·subst hc'; rw [bR] at m'; cases m'
    exact (hfree _ _ _ _ e m).elim
   ·rw [dN _ _ hc'] at m'
    exact W.inj _ _ _ _ _ _ _ _ _ e e' m m'
 ·obtain ⟨h1, _, h2⟩ := W.wc _ _ _ e
  have hne : B' ≠ B := fun q => by subst q; exact himm _ _ e
  refine ⟨by rw [ta (w := w)]; exact h1; rw [cH _ _ _ _ b2, if_neg hne], rfl, fun c x o'' N' e' m => ?_⟩
  by_cases hc : c = b
  ·subst hc; rw [bR] at m; cases m; exact hne rfl
  ·rw [dN _ _ hc] at m; exact h2 _ _ _ _ e' m
theorem modify_eq (w : World) (B : Nat) (x : Obj) (f : Obj -> Obj) (hx : w.heap[B]? = some x) : w.heap.modify B f = w.heap.setIfInBounds B (f x) := by
 apply Array.ext_getElem?
 intro i
 rw [Array.getElem?_modify, Array.getElem?_setIfInBounds]
 by_cases e : B = i
 ·subst e
  obtain ⟨h1, h2⟩ := Array.getElem?_eq_some_iff.1 hx
  simp [h1, h2]
 ·simp [e]
theorem wH (w : World) {B o : Nat} {c : Array Value} {e : TypeId} {fr : Nat × Nat} (hx : w.heap[B]? = some (.cells c e fr)) (v : Value) :
  w.setCell ⟨B, o, none⟩ v = w.bV B (.cells (c.setIfInBounds o v) e fr) := by
 unfold World.setCell World.bV
 simp only [modify_eq w B _ _ hx]
 rfl
theorem vq (w : World) (B : Nat) (x y : Obj) : (w.bV B x).bV B y = w.bV B y := by
 simp [World.bV]
theorem mP (w : World) {B : Nat} {x : Obj} (hx : w.heap[B]? = some x) : w.bV B x = w := by
 obtain ⟨h2, h3⟩ := Array.getElem?_eq_some_iff.1 hx
 have : w.heap.setIfInBounds B x = w.heap := by
  apply Array.ext_getElem?
  intro k
  rw [Array.getElem?_setIfInBounds]
  split
  ·rename_i q; subst q; simp [h2, h3]
  ·rfl
 unfold World.bV
 rw [this]
theorem iJ {B o : Nat} {e : TypeId} : ∀ (vs : List Value) (i : Nat) (c : Array Value) (w : World), w.heap[B]? = some (.cells c e (0, 0)) -> o + i + vs.length <= c.size -> (∀ v ∈ vs, v.oneCell' = true) ->
  ∃ c' : Array Value, (storeCells ⟨B, o, none⟩ vs i).run P w = .ok () (w.bV B (.cells c' e (0, 0))) /\ c'.toList = c.toList.take (o + i) ++ vs ++ c.toList.drop (o + i + vs.length) := by
 intro vs
 induction vs with
 | nil =>
  intro i c w hx hl h1
  refine ⟨c, ?_, by simp⟩
  simp only [storeCells, Sem.run_pure]
  rw [mP w hx]
 | cons v vs ih =>
  intro i c w hx hl h1
  have hB := (Array.getElem?_eq_some_iff.1 hx).1
  simp only [List.length_cons] at hl
  have hcell : ∃ u, w.cell? ⟨B, o + i, none⟩ = some u := by
   have : o + i < c.size := by omega
   exact ⟨c[o + i], by simp [World.cell?, hx, this]⟩
  obtain ⟨u, hu⟩ := hcell
  have hfr : w.frozen? ⟨B, o + i, none⟩ = false := by simp [World.frozen?, hx]
  have hx' : (w.bV B (.cells (c.setIfInBounds (o + i) v) e (0, 0))).heap[B]? = some (.cells (c.setIfInBounds (o + i) v) e (0, 0)) := by rw [cH _ _ _ _ hB, if_pos rfl]
  obtain ⟨c', h2, h3⟩ := ih (i + 1) (c.setIfInBounds (o + i) v) _ hx' (by simp; omega) (fun x hx => h1 x (by simp [hx]))
  refine ⟨c', ?_, ?_⟩
  ·have hv := h1 v (by simp)
   simp only [storeCells, Sem.run_bind, dZ]
   rw [run_store P w _ _ _ hv, hu]
   simp only [hfr, Bool.false_eq_true, if_false, Result.andThen_ok]
   rw [wH w hx, h2, vq]
  ·rw [h3]
   simp only [Array.toList_setIfInBounds]
   have hlt : o + i < c.toList.length := by simp; omega
   rw [show o + (i + 1) = o + i + 1 from by omega]
   rw [List.take_succ_eq_append_getElem (by simp; omega)]
   simp only [List.getElem_set_self, List.append_assoc, List.cons_append, List.nil_append, List.length_cons]
   rw [List.take_set_of_le (Nat.le_refl _), List.drop_set_of_lt (by omega)]
   rw [show o + i + 1 + vs.length = o + i + (vs.length + 1) from by omega]
end
end Go.a9
namespace Go.a9
open Go.RowKit (Below)
section
variable {P : Program} {μ : Mu} {I : fu} {w0 w : World} {h : ah}
theorem mN {cs vs : List AV} {off : Nat} (hl : off + vs.length <= cs.length) : (aB cs off vs).length = cs.length := by
 simp [aB]; omega
theorem oH {cs vs : List AV} {c c' : Array Value} {xs : List Value} {o N off : Nat}
  (h1 : c.size = N) (h2 : o + cs.length <= N) (h3 : ∀ (i : Nat) (a : AV), cs[i]? = some a -> ∃ v, c[o + i]? = some v /\ aG μ I a v)
  (q : aL μ I vs xs) (hl : off + vs.length <= cs.length) (hc : c'.toList = c.toList.take (o + off) ++ xs ++ c.toList.drop (o + off + xs.length)) :
  c'.size = N /\ o + (aB cs off vs).length <= N /\ ∀ (i : Nat) (a : AV), (aB cs off vs)[i]? = some a -> ∃ v, c'[o + i]? = some v /\ aG μ I a v := by
 have lq := q.length
 have hs : c'.size = N := by
  rw [<- Array.length_toList, hc]; simp; omega
 refine ⟨hs, by rw [mN hl]; exact h2, fun i a e => ?_⟩
 rw [<- Array.getElem?_toList, hc]
 unfold aB at e
 rw [List.append_assoc] at e ⊢
 have ht : (cs.take off).length = off := by simp; omega
 have ht' : (c.toList.take (o + off)).length = o + off := by simp; omega
 by_cases c1 : i < off
 ·rw [List.getElem?_append_left (by omega)] at e
  rw [List.getElem?_append_left (by omega)]
  rw [List.getElem?_take, if_pos c1] at e
  rw [List.getElem?_take, if_pos (by omega)]
  simpa using h3 i a e
 ·rw [List.getElem?_append_right (by omega), ht] at e
  rw [List.getElem?_append_right (by omega), ht']
  have : o + i - (o + off) = i - off := by omega
  rw [this]
  by_cases c2 : i - off < vs.length
  ·rw [List.getElem?_append_left c2] at e
   rw [List.getElem?_append_left (by omega)]
   exact q.get e
  ·rw [List.getElem?_append_right (by omega)] at e
   rw [List.getElem?_append_right (by omega)]
   rw [List.getElem?_drop] at e ⊢
   have e2 := h3 _ a e
   rw [<- Array.getElem?_toList] at e2
   have : o + off + xs.length + (i - off - xs.length) = o + (off + vs.length + (i - off - vs.length)) := by omega
   rw [this]
   exact e2
theorem zf (W : bL μ I w0 h w) {t : TypeId} {a v : AV} {u x : Value} {h' : ah} (e : gA P h t a v = some h') (r : aG μ I a u) (q : aG μ I v x) :
  ∃ w', (Instr.storeAt t u x).run P w = .ok () w' /\ bL μ I w0 h' w' /\ h'.next = h.next /\ ∀ b, μ b = none -> h'.get b = h.get b := by
 unfold gA at e
 split at e
 ·rename_i b off
  split at e
  ·rename_i cs hb
   cases hs : aA P t with
   | none => rw [hs] at e; cases e
   | some s =>
    rw [hs] at e
    simp only at e
    obtain ⟨hc, e⟩ := aJ e
    simp only [Bool.and_eq_true] at hc
    obtain ⟨⟨c1, c2⟩, c3⟩ := hc
    have c1 := aq c1
    have c2 := Nat.le_of_ble_eq_true c2
    simp at e
    subst e
    cases r with
    | ptr hm =>
     rename_i B o N
     obtain ⟨obj, ho, hr⟩ := W.bj _ _ _ _ _ hb hm
     cases hr with
     | cells g1 g2 g3 =>
      rename_i c el
      have hnb : v ≠ .bad := by intro z; subst z; simp [AV.cells, AV.one] at c3
      have qc := q.cells hnb
      have lq := qc.length
      obtain ⟨c', k1, k2⟩ := iJ (P := P) (B := B) (o := o + off) x.cells.toList 0 c w ho (by omega) (qc.oj c3)
      have hsz : x.cells.size = s := by rw [<- Array.length_toList, <- lq, c1]
      refine ⟨w.bV B (.cells c' el (0, 0)), ?_, W.update hb hm ?_, rfl, ?_⟩
      ·simp [Instr.storeAt, Instr.sureAddr, storeVar, run_sizeOf hs, hsz, k1]
      ·obtain ⟨z1, z2, z3⟩ := oH g1 g2 g3 qc (by omega) k2
       exact .cells z1 z2 z3
      ·intro d hd
       rw [ah.aP, if_neg (fun q => by subst q; rw [hm] at hd; cases hd)]
  ·cases e
 ·cases e
theorem dQ (z : List AV) (n : Nat) : (dE z n).length = n * z.length := by
 induction n with
 | zero => simp [dE]
 | succ n ih => simp [dE, ih, Nat.succ_mul]; omega
theorem Bt (z : List AV) : ∀ (n i : Nat), i < n * z.length -> (dE z n)[i]? = z[i % z.length]? := by
 intro n
 induction n with
 | zero => intro i h; omega
 | succ n ih =>
  intro i hi
  simp only [dE]
  rw [Nat.succ_mul] at hi
  by_cases c : i < z.length
  ·rw [List.getElem?_append_left c, Nat.mod_eq_of_lt c]
  ·rw [List.getElem?_append_right (by omega), ih _ (by omega)]
   congr 1
   conv => rhs; rw [show i = i - z.length + z.length from by omega, Nat.add_mod_right]
theorem jL {z : AV} {v : Value} (r : aG μ I z v) (hb : z.cells.all AV.one = true) : aL μ I z.cells v.cells.toList := by
 refine r.cells ?_
 intro q; subst q; simp [AV.cells, AV.one] at hb
theorem pk {z : List AV} {v : Array Value} (r : aL μ I z v.toList) (n : Nat) {us : Array Value} (hn : us.size = n * v.size) (hu : ∀ i, i < n * v.size -> us[i]? = v[i % v.size]?) :
  aL μ I (dE z n) us.toList := by
 have lr := r.length
 simp only [Array.length_toList] at lr
 refine aL.BA ?_ fun i a x e f => ?_
 ·have : us.toList.length = us.size := by simp
  rw [dQ, this, hn, lr]
 ·have hi : i < us.toList.length := (List.getElem?_eq_some_iff.1 f).1
  rw [Array.length_toList, hn] at hi
  rw [Bt _ _ _ (by rw [lr]; exact hi), lr] at e
  rw [Array.getElem?_toList, hu i hi] at f
  obtain ⟨y, hy, hr⟩ := r.get e
  rw [Array.getElem?_toList, f] at hy
  cases hy
  exact hr
theorem jF (v : Array Value) (m : Nat) (hv : 0 < v.size) : ((Array.range m).map (v[· % v.size]!)).size = m /\ ∀ i, i < m -> ((Array.range m).map (v[· % v.size]!))[i]? = v[i % v.size]? := by
 refine ⟨by simp, fun i hi => ?_⟩
 have : i % v.size < v.size := Nat.mod_lt _ hv
 simp [hi, this]
theorem oP {place : Nat -> Option (Nat × Nat)} : ∀ {parts : List (Nat × AV)} {cells out : List AV}, eP place cells parts = some out -> out.length = cells.length
 | [], cells, out, e => by simp [eP] at e; subst e; rfl
 | (i, a) :: rest, cells, out, e => by
  unfold eP at e
  split at e
  ·cases e
  ·split at e
   ·cases e
   ·obtain ⟨hc, e⟩ := aJ e
    simp only [Bool.and_eq_true] at hc
    rw [oP e]
    exact mN (Nat.le_of_ble_eq_true hc.2)
theorem wh {n : Nat} (h : n <= 4611686018427387904) : IntKind.i64.wrap (n : Int) = n := IntWalk.i64_in _ (by omega)
theorem ti {b : Nat} {tm : Tr AV} {ρ : Operand -> Value} {o : Oper} {ob : fO} {v : AV} (e : bH P b tm o = some (ob, v))
  (hop : ∀ x ∈ o.op.operands.toList, aG μ I (evalOp tm x) (ρ x)) (w : World) :
  ∃ q u N, (execOp ρ o).run P w = .ok (.value u) (w.bn q) /\ ∀ μ', Ext μ μ' I I -> μ' b = some (w.heap.size, 0, N) -> kR μ' I ob 0 N q /\ aG μ' I v u := by
 obtain ⟨dst, op, type, pos, after, guard⟩ := o
 unfold bH at e
 unfold execOp
 have cellsOf : ∀ {μ' : Mu} {cs : List AV} {us : Array Value} {el : TypeId}, aL μ' I cs us.toList -> kR μ' I (.cells cs) 0 us.size (.cells us el (0, 0)) := by
  intro μ' cs us el hr
  have lr := hr.length
  simp only [Array.length_toList] at lr
  exact .cells rfl (by omega) fun i a ea => by
   obtain ⟨y, hy, hr⟩ := hr.get ea
   exact ⟨y, by simpa using hy, hr⟩
 cases op <;> simp only at e hop ⊢ <;> try cases e
 case alloc t =>
  cases hz : fP P t with
  | none => rw [hz] at e; cases e
  | some z =>
   rw [hz] at e
   obtain ⟨hc, e⟩ := aJ e
   simp at e
   obtain ⟨rfl, rfl⟩ := e
   obtain ⟨i, zv, hi, hzv, rfl, hrun⟩ := cK (P := P) hz w
   refine ⟨.cells zv.cells t (0, 0), .pointer (some ⟨w.heap.size, 0, none⟩), zv.cells.size, ?_, fun μ' hx hm => ⟨?_, ?_⟩⟩
   ·simp [Instr.alloc, hrun, newVar, newRow, World.bn]
   ·exact cellsOf (jL (gM zv) hc)
   ·have := aG.ptr (I := I) (off := 0) hm; simpa using this
 case box t x =>
  have hxx := hop x (by simp [Op.operands])
  split at e
  ·cases e
  ·rename_i hnb
   obtain ⟨hc, e⟩ := aJ e
   simp at e
   obtain ⟨rfl, rfl⟩ := e
   refine ⟨.cells (ρ x).cells t (0, 0), .pointer (some ⟨w.heap.size, 0, none⟩), (ρ x).cells.size, ?_, fun μ' hx hm => ⟨?_, ?_⟩⟩
   ·simp [Instr.box, newVar, newRow, World.bn]
   ·exact cellsOf (jL (hxx.mono hx) hc)
   ·have := aG.ptr (I := I) (off := 0) hm; simpa using this
 case makeMap t r =>
  have fin : ∀ s : Sem Value, s.run P w = .ok (.map (some w.heap.size)) (w.bn (.map #[] 0)) -> ∃ q u N, (do pure (.value (<- s)) : Sem Next).run P w = .ok (.value u) (w.bn q) /\ ∀ μ', Ext μ μ' I I -> μ' b = some (w.heap.size, 0, N) -> kR μ' I (.map [] 0) 0 N q /\ aG μ' I (.map b) u :=
   fun s hs => ⟨.map #[] 0, .map (some w.heap.size), 0, by simp [hs], fun μ' hx hm => ⟨.map .nil, .map hm⟩⟩
  cases r with
  | none =>
   simp at e
   obtain ⟨rfl, rfl⟩ := e
   exact fin _ (by simp [Instr.makeMap, newObj, Sem.run]; rfl)
  | some x =>
   have hxx := hop x (by simp [Op.operands])
   simp only at e
   split at e
   case h_2 => cases e
   rename_i kt et k n hu hx
   simp at e
   obtain ⟨rfl, rfl⟩ := e
   rw [hx] at hxx
   refine fin _ ?_
   simp only [Option.map_some]
   generalize ρ x = rx at hxx ⊢
   cases hxx
   simp [Instr.makeMap, run_underlying hu, asInt, asIntOf, newObj, Sem.run]
   rfl
 case buildSlice t len parts =>
  split at e
  case h_2 => cases e
  case h_1 el hu =>
  split at e
  case h_2 => cases e
  case h_1 s z hs hz =>
  obtain ⟨hc, e⟩ := aJ e
  simp only [Bool.and_eq_true] at hc
  obtain ⟨⟨⟨c1, c2⟩, c3⟩, c4⟩ := hc
  have c1 := aq c1
  have c2 := jI c2
  have c3 := Nat.le_of_ble_eq_true c3
  split at e
  case h_2 => cases e
  case h_1 cs hf =>
  obtain ⟨hone, e⟩ := aJ e
  simp at e
  obtain ⟨rfl, rfl⟩ := e
  obtain ⟨i, zv, hi, hzv, rfl, hrun⟩ := cK (P := P) hz w
  have hzr : aL μ I (x8 zv).cells zv.cells.toList := jL (gM zv) c4
  have lz := hzr.length
  simp only [Array.length_toList] at lz
  have hzs : zv.cells.size = s := by omega
  have q : mi μ I (parts.toList.map fun p => (p.1, evalOp tm p.2)) (parts.toList.map fun p => (p.1, ρ p.2)) :=
   mi.map fun p hp => hop p.2 (by simp [Op.operands]; exact ⟨p.1, by simpa using hp⟩)
  have hr0 := jF zv.cells (len * s) (by omega)
  have hbase : aL μ I (dE (x8 zv).cells len) ((Array.range (len * s)).map (zv.cells[· % zv.cells.size]!)).toList :=
   pk hzr len (by rw [hr0.1, hzs]) (fun i hi => hr0.2 i (by rw [hzs] at hi; exact hi))
  obtain ⟨out, k1, k2⟩ := mJ hf q hbase
  refine ⟨.cells out el (0, 0), .slice (some ⟨w.heap.size, 0, none⟩) len len, out.size, ?_, fun μ' hx hm => ⟨cellsOf (k2.mono hx), ?_⟩⟩
  ·have hbig : ¬ 16777216 < len * s := by omega
   by_cases h0 : len * s = 0
   ·have e0 : (Array.range (len * s)).map (zv.cells[· % zv.cells.size]!) = #[] := by rw [h0]; simp
    rw [e0] at k1
    have hl0 : len = 0 := by rcases Nat.mul_eq_zero.1 h0 with h | h <;> omega
    subst hl0
    have hr : Array.range 0 = #[] := rfl
    simp [Instr.buildSlice, run_underlying hu, run_sizeOf hs, k1, newRow, World.bn, hr]
   ·simp [Instr.buildSlice, run_underlying hu, run_sizeOf hs, h0, hrun, k1, newRow, World.bn, hbig]
  ·have lo : out.size = len * s := by
    have h1 := k2.length
    have h2 := oP hf
    rw [dQ, c1] at h2
    simp only [Array.length_toList] at h1
    omega
   have := aG.slice (I := I) (off := 0) (len := len) (cap := len) (sz := s) hm (Nat.le_refl _) (by omega)
   simpa using this
 case makeSlice t l c =>
  split at e
  case h_2 => cases e
  case h_1 el hu =>
  split at e
  case h_2 => cases e
  case h_1 i z k1 m k2 n hi hz hl hcp =>
  obtain ⟨hc, e⟩ := aJ e
  simp at e
  obtain ⟨rfl, rfl⟩ := e
  simp only [Bool.and_eq_true] at hc
  obtain ⟨⟨⟨⟨⟨c1, c2⟩, c3⟩, c4⟩, c5⟩, c6⟩ := hc
  have c1 := aq c1
  have c2 := jI c2
  have c3 := aq c3
  have c4 := Nat.le_of_ble_eq_true c4
  have c5 := Nat.le_of_ble_eq_true c5
  subst c3
  have r1 := hop l (by simp [Op.operands])
  have r2 := hop c (by simp [Op.operands])
  rw [hl] at r1
  rw [hcp] at r2
  obtain ⟨i', zv, hi', hzv, rfl, hrun⟩ := cK (P := P) hz w
  rw [hi] at hi'
  cases hi'
  have hzr : aL μ I (x8 zv).cells zv.cells.toList := jL (gM zv) c6
  have lz := hzr.length
  simp only [Array.length_toList] at lz
  have hzs : zv.cells.size = i.size := by omega
  have hs : aA P el = some i.size := by simp [aA, hi]
  have hr0 := jF zv.cells (m * i.size) (by omega)
  have hbase : aL μ I (dE (x8 zv).cells m) ((Array.range (m * i.size)).map (zv.cells[· % zv.cells.size]!)).toList :=
   pk hzr m (by rw [hr0.1, hzs]) (fun j hj => hr0.2 j (by rw [hzs] at hj; exact hj))
  refine ⟨.cells ((Array.range (m * i.size)).map (zv.cells[· % zv.cells.size]!)) el (0, 0), .slice (some ⟨w.heap.size, 0, none⟩) m m, m * i.size, ?_, fun μ' hx hm => ⟨?_, ?_⟩⟩
  ·have q1 : asInt (ρ l) = pure (m : Int) := by
    generalize ρ l = x at r1; cases r1; rfl
   have q2 : asInt (ρ c) = pure (m : Int) := by
    generalize ρ c = x at r2; cases r2; rfl
   have hw := wh c5
   have hb1 : ¬ (281474976710656 < (i.bytes : Int) * (m : Int)) := by
    have : ((i.bytes : Int) * (m : Int)) = ((m * i.bytes : Nat) : Int) := by push_cast; rw [Int.mul_comm]
    rw [this]; omega
   have hneg : ¬ ((m : Int) < 0) := by omega
   simp only [Instr.makeSlice, Sem.run_bind, run_underlying hu, Result.andThen_ok, q1, q2, Sem.run_pure, run_typeInfo hi, hw]
   by_cases h0 : m * i.size = 0
   ·have e0 : (Array.range (m * i.size)).map (zv.cells[· % zv.cells.size]!) = #[] := by rw [h0]; simp
    have hl0 : m = 0 := by rcases Nat.mul_eq_zero.1 h0 with h | h <;> omega
    subst hl0
    have hr : Array.range 0 = #[] := rfl
    simp [run_sizeOf hs, newRow, World.bn, hr]
   ·simp [hb1, hneg, run_sizeOf hs, h0, hrun, newRow, World.bn]
  ·have := cellsOf (el := el) (hbase.mono hx)
   rw [hr0.1] at this
   exact this
  ·have := aG.slice (I := I) (off := 0) (len := m) (cap := m) (sz := i.size) hm (Nat.le_refl _) (by omega)
   simpa using this
theorem oI {cs l : List AV} {B o n : Nat} (c : fb μ I w cs B o) (e : takeN n cs = some l) (m : Nat) (hm : m <= n) :
  ∃ vs : List Value, (loadCells ⟨B, o, none⟩ m).run P w = .ok vs.toArray w /\ aL μ I (l.take m) vs := by
 have c' := c.take e
 have hl := (dP e).2
 refine mU (cs := l.take m) (fun i a ei => ?_) (by simp; omega)
 rw [List.getElem?_take] at ei
 split at ei
 ·exact c' i a ei
 ·cases ei
theorem j6 (W : bL μ I w0 h w) {sz n : Nat} {x : AV} {l : List AV} {u : Value} (e : elems h sz x = some (n, l)) (r : aG μ I x u) :
  l.length = n * sz /\ (Builtin.lenOf u).run P w = .ok n w /\ (∃ a c, u = .slice a n c) /\
   ∀ m, m <= n -> ∃ vs : List Value, (Builtin.firstCells sz m u).run P w = .ok vs.toArray w /\ aL μ I (l.take (m * sz)) vs := by
 unfold elems at e
 split at e
 ·cases e
  cases r
  refine ⟨by simp, by simp [Builtin.lenOf], ⟨_, _, rfl⟩, fun m hm => ⟨[], by simp [Builtin.firstCells], by simp; exact .nil⟩⟩
 ·rename_i b off len s
  split at e
  ·rename_i cs hb
   obtain ⟨hs, e⟩ := aJ e
   have hs := aq hs
   subst hs
   cases ht : takeN (len * s) (cs.drop off) with
   | none => rw [ht] at e; simp at e
   | some q =>
    rw [ht] at e
    simp at e
    obtain ⟨rfl, rfl⟩ := e
    have hl := (dP ht).2
    cases r with
    | slice hm h1 h2 =>
     rename_i cap B o N
     refine ⟨hl, by simp [Builtin.lenOf], ⟨_, _, rfl⟩, fun m hm' => ?_⟩
     obtain ⟨vs, k1, k2⟩ := oI (P := P) ((mW W hb hm).drop off) ht (m * s) (Nat.mul_le_mul_right _ hm')
     exact ⟨vs, by simp [Builtin.firstCells, k1], k2⟩
    | jy hm =>
     refine ⟨hl, by simp [Builtin.lenOf], ⟨_, _, rfl⟩, fun m hm' => ?_⟩
     have : m = 0 := by omega
     subst this
     exact ⟨[], by simp [Builtin.firstCells, loadCells, loadCellsFrom], by simp; exact .nil⟩
  ·cases e
 ·rename_i cs len s
  obtain ⟨hs, e⟩ := aJ e
  have hs := aq hs
  subst hs
  cases ht : takeN (len * s) cs with
  | none => rw [ht] at e; simp at e
  | some q =>
   rw [ht] at e
   simp at e
   obtain ⟨rfl, rfl⟩ := e
   have hl := (dP ht).2
   cases r with
   | bY hc h1 =>
    rename_i cap B o
    refine ⟨hl, by simp [Builtin.lenOf], ⟨_, _, rfl⟩, fun m hm' => ?_⟩
    obtain ⟨vs, k1, k2⟩ := oI (P := P) (qG W hc) ht (m * s) (Nat.mul_le_mul_right _ hm')
    exact ⟨vs, by simp [Builtin.firstCells, k1], k2⟩
   | je =>
    refine ⟨hl, by simp [Builtin.lenOf], ⟨_, _, rfl⟩, fun m hm' => ?_⟩
    have : m = 0 := by omega
    subst this
    exact ⟨[], by simp [Builtin.firstCells, loadCells, loadCellsFrom], by simp; exact .nil⟩
 ·cases e
theorem AK (newLen : Nat) : ∀ (k c : Nat), c <= 2 * newLen + 1024 -> Builtin.growBy newLen k c <= 2 * newLen + 1024 := by
 intro k
 induction k with
 | zero => intro c hc; exact hc
 | succ k ih =>
  intro c hc
  simp only [Builtin.growBy]
  split
  ·exact hc
  ·exact ih _ (by omega)
theorem nextslicecap_le (newLen old : Nat) (h : old < newLen) : Builtin.nextslicecap newLen old <= 2 * newLen + 1024 := by
 unfold Builtin.nextslicecap
 split
 ·omega
 ·split
  ·omega
  ·exact AK _ _ _ (by omega)
theorem rI (z : Array Value) (n : Nat) : (Builtin.zeroCells z n).size = n * z.size := by simp [Builtin.zeroCells]
end
end Go.a9
namespace Go.a9
open Go.RowKit (Below)
section
variable {P : Program} {μ : Mu} {I : fu} {w0 w : World} {h : ah}
structure eS (P : Program) (μ μ' : Mu) (I : fu) (w0 : World) (h h' : ah) (w' : World) : Prop where
 ext : Ext μ μ' I I
 rel : bL μ' I w0 h' w'
 next : h.next <= h'.next
 cJ : ∀ b, b < h.next -> μ b = none -> μ' b = none /\ h'.get b = h.get b
theorem eS.refl (W : bL μ I w0 h w) : eS P μ μ I w0 h h w := ⟨.refl _ _, W, Nat.le_refl _, fun _ _ e => ⟨e, rfl⟩⟩
theorem eS.trans {μ1 μ2 μ3 : Mu} {h1 h2 h3 : ah} {w2 w3 : World} (a : eS P μ1 μ2 I w0 h1 h2 w2) (b : eS P μ2 μ3 I w0 h2 h3 w3) : eS P μ1 μ3 I w0 h1 h3 w3 :=
 ⟨a.ext.trans b.ext, b.rel, Nat.le_trans a.next b.next, fun c hc e => by
  obtain ⟨p, q⟩ := a.cJ c hc e
  obtain ⟨p', q'⟩ := b.cJ c (Nat.lt_of_lt_of_le hc a.next) p
  exact ⟨p', q'.trans q⟩⟩
theorem jZ (W : bL μ I w0 h w) {ob : fO} {o : Obj} {N : Nat} (hr : kR (gH μ h.next (w.heap.size, 0, N)) I ob 0 N o) :
  eS P μ (gH μ h.next (w.heap.size, 0, N)) I w0 h (h.new ob) (w.bn o) := by
 have hn := W.fg
 refine ⟨.gH hn, (W.new ob).push (by rw [ah.aQ, if_pos rfl]) hn hr, Nat.le_succ _, fun b hb e => ?_⟩
 have : b ≠ h.next := by omega
 exact ⟨by rw [dN _ _ this]; exact e, by rw [ah.aQ, if_neg this]⟩
theorem vy {el : TypeId} {old new : List AV} {us vs rest : Array Value} {N : Nat} (r1 : aL μ I old us.toList) (r2 : aL μ I new vs.toList) (hN : (us ++ vs ++ rest).size = N) :
  kR μ I (.cells (old ++ new)) 0 N (.cells (us ++ vs ++ rest) el (0, 0)) := by
 have l1 := r1.length
 have l2 := r2.length
 simp only [Array.length_toList] at l1 l2
 simp only [Array.size_append] at hN
 refine .cells (by simp only [Array.size_append]; exact hN) (by simp; omega) fun i a e => ?_
 obtain ⟨v, hv, hr⟩ := (r1.append r2).get e
 refine ⟨v, ?_, hr⟩
 have hlt := (List.getElem?_eq_some_iff.1 hv).1
 rw [Nat.zero_add, <- Array.getElem?_toList]
 simp only [Array.toList_append]
 rw [List.getElem?_append_left (by simpa using hlt)]
 exact hv
theorem xH {h : ah} {sz0 b off len sz n : Nat} {l : List AV} (e : elems h sz0 (.slice b off len sz) = some (n, l)) :
  n = len /\ sz0 = sz /\ ∃ cs, h.get b = some (.cells cs) /\ takeN (len * sz) (cs.drop off) = some l := by
 simp only [elems] at e
 split at e
 ·rename_i cs hb
  obtain ⟨h1, e⟩ := aJ e
  cases ht : takeN (len * sz) (cs.drop off) with
  | none => rw [ht] at e; simp at e
  | some q => rw [ht] at e; simp at e; exact ⟨e.1.symm, (aq h1).symm, cs, hb, by rw [ht, e.2]⟩
 ·cases e
theorem qI (W : bL μ I w0 h w) {el : TypeId} {i : TypeInfo} {zv : Value} (hi : P.info? el = some i) (hz : (∀ w, (zeroValue el).run P w = .ok zv w)) (hzs : zv.cells.size = i.size)
  {s v : AV} {s' : Value} {n : Nat} {new : List AV} {h' : ah} (zeros : Bool) (appended : Sem (Array Value)) (x : Value)
  (hnew : ∀ k, ∃ vs : List Value, appended.run P { w with drawn := k } = .ok vs.toArray { w with drawn := k } /\ aL μ I new vs) (hnl : new.length = n * i.size)
  (e : da h i.size i.bytes s n new = some (v, h')) (r : aG μ I s s') :
  ∃ (base : Option Addr) (sLen sCap : Nat), s' = .slice base sLen sCap /\ ∃ μ' u w',
   (do
    let need := sLen + n
    if need <= sCap then
     let new <- appended
     if let some a := base then storeCells (a.add (sLen * i.size)) new.toList
     pure (.slice base need sCap)
    else
     if (need : Int) > IntKind.i64.max /\ (zeros = true \/ (<- typeInfo el).bytes = 0) then runtimePanic (.error "growslice: len out of range")
     if Builtin.nextslicecap need sCap * (<- typeInfo el).bytes > 2 ^ 48 then (if zeros then runtimePanic (.error "growslice: len out of range") else do
      if !(<- Builtin.mayShare i.size sLen n base x) then mark .noRoom
      unsupported (.resourceLimit "append: a slice or a string whose bytes no memory bears"))
     let newCap <- choose (.appendCap need sCap el)
     askRoom (newCap * (<- typeInfo el).bytes)
     let old <- Builtin.firstCells i.size sLen s'
     let new <- appended
     let rest := Builtin.zeroCells (<- zeroValue el).cells (newCap - need)
     pure (.slice (some (<- newRow el (old ++ new ++ rest))) need newCap) : Sem Value).run P w = .ok u w' /\ eS P μ μ' I w0 h h' w' /\ aG μ' I v u := by
 have grow : ∀ (base : Option Addr) (sLen sCap : Nat) (hh : ah) (old : List AV), sCap < sLen + n -> (2 * (sLen + n) + 1024) * i.bytes <= 140737488355328 -> sLen + n <= 2305843009213693952 ->
   bL μ I w0 hh w -> (∃ us : List Value, (Builtin.firstCells i.size sLen s').run P { w with drawn := w.drawn + 1 } = .ok us.toArray { w with drawn := w.drawn + 1 } /\ aL μ I old us) -> old.length = sLen * i.size -> 
   ∃ μ' u w', (do
     if (sLen + n : Int) > IntKind.i64.max /\ (zeros = true \/ (<- typeInfo el).bytes = 0) then runtimePanic (.error "growslice: len out of range")
     if Builtin.nextslicecap (sLen + n) sCap * (<- typeInfo el).bytes > 2 ^ 48 then (if zeros then runtimePanic (.error "growslice: len out of range") else do
      if !(<- Builtin.mayShare i.size sLen n base x) then mark .noRoom
      unsupported (.resourceLimit "append: a slice or a string whose bytes no memory bears"))
     let newCap <- choose (.appendCap (sLen + n) sCap el)
     askRoom (newCap * (<- typeInfo el).bytes)
     let old <- Builtin.firstCells i.size sLen s'
     let new <- appended
     let rest := Builtin.zeroCells (<- zeroValue el).cells (newCap - (sLen + n))
     pure (.slice (some (<- newRow el (old ++ new ++ rest))) (sLen + n) newCap) : Sem Value).run P w = .ok u w' /\
    eS P μ μ' I w0 hh (hh.new (.cells (old ++ new))) w' /\ aG μ' I (.slice hh.next 0 (sLen + n) i.size) u := by
  intro base sLen sCap hh old hc hb hl W ⟨us, hus1, hus2⟩ hol
  obtain ⟨vs, hvs⟩ := hnew (w.drawn + 1)
  have W1 := W.drew (w.drawn + 1)
  have hcap : ¬ (281474976710656 < Builtin.nextslicecap (sLen + n) sCap * i.bytes) := by
   have h1 := nextslicecap_le (sLen + n) sCap hc
   have h2 := Nat.mul_le_mul_right i.bytes h1
   omega
  have hmax : ¬ (IntKind.i64.max < (sLen : Int) + (n : Int)) := by
   have : IntKind.i64.max = 9223372036854775807 := by decide
   omega
  let newCap := (sLen + n) + w.tape w.drawn (.appendCap (sLen + n) sCap el) % (2 ^ 63 - (sLen + n))
  have hge : sLen + n <= newCap := Nat.le_add_right _ _
  let row := us.toArray ++ vs.toArray ++ Builtin.zeroCells zv.cells (newCap - (sLen + n))
  have l1 := hus2.length
  have l2 := hvs.2.length
  have hU : row.size = newCap * i.size := by
   simp only [row, Array.size_append, List.size_toArray, rI, hzs]
   rw [<- l1, <- l2, hol, hnl, <- Nat.add_mul, <- Nat.add_mul]
   congr 1
   omega
  refine ⟨gH μ hh.next (w.heap.size, 0, newCap * i.size), .slice (some ⟨w.heap.size, 0, none⟩) (sLen + n) newCap, ({ w with drawn := w.drawn + 1 } : World).bn (.cells row el (0, 0)), ?_, ?_, ?_⟩
  ·have hcap' : ¬ (Builtin.nextslicecap (sLen + n) sCap * i.bytes > 2 ^ 48) := by simpa using hcap
   have hmax' : ¬ ((sLen : Int) + (n : Int) > IntKind.i64.max) := hmax
   simp only [hmax', false_and, if_false]
   simp only [Sem.run_bind, run_typeInfo hi, Result.andThen_ok, hcap', if_false]
   rw [run_choose]
   simp only [Question.forced, Bool.false_eq_true, if_false, Question.cut, Result.andThen_ok, run_askRoom, hus1, hvs.1, hz, newRow, Sem.run_bind, run_newObj, Sem.run_pure]
   rfl
  ·have := jZ (P := P) W1 (ob := .cells (old ++ new)) (o := .cells row el (0, 0)) (N := newCap * i.size) ?_
   ·exact this
   ·have hx : Ext μ (gH μ hh.next (w.heap.size, 0, newCap * i.size)) I I := .gH W.fg
    exact vy (by simpa using hus2.mono hx) (by simpa using hvs.2.mono hx) hU
  ·have := aG.slice (I := I) (off := 0) (len := sLen + n) (cap := newCap) (sz := i.size) (bR μ hh.next (w.heap.size, 0, newCap * i.size)) hge (by omega)
   simpa using this
 unfold da at e
 split at e
 ·cases r
  refine ⟨none, 0, 0, rfl, ?_⟩
  cases n with
  | zero =>
   simp at e
   obtain ⟨rfl, rfl⟩ := e
   obtain ⟨vs, hvs⟩ := hnew w.drawn
   exact ⟨μ, .slice none 0 0, w, by simp [hvs.1], .refl W, .aV⟩
  | succ m =>
   simp only at e
   obtain ⟨hc, e⟩ := aJ e
   simp at e
   obtain ⟨rfl, rfl⟩ := e
   simp only [Bool.and_eq_true] at hc
   obtain ⟨⟨c1, c2⟩, c3⟩ := hc
   have c1 := Nat.le_of_ble_eq_true c1
   have c2 := Nat.le_of_ble_eq_true c2
   obtain ⟨μ', u, w', g1, g2, g3⟩ := grow none 0 0 h [] (by omega) (by simpa using c1) (by omega) W ⟨[], by simp [Builtin.firstCells], .nil⟩ (by simp)
   refine ⟨μ', u, w', ?_, by simpa using g2, by simpa using g3⟩
   have : ¬ (0 + (m + 1) <= 0) := by omega
   simp only [this, if_false]
   exact_mod_cast g1
 ·rename_i b off len sz
  cases he : elems h i.size (.slice b off len sz) with
  | none => rw [he] at e; cases e
  | some lo =>
   obtain ⟨ln, old⟩ := lo
   rw [he] at e
   simp only at e
   obtain ⟨k1, k2, ⟨ka, kc, k3⟩, k4⟩ := j6 (P := P) W he r
   obtain ⟨rfl, hsz', cs, hb, ht⟩ := xH he
   subst k3
   refine ⟨ka, ln, kc, rfl, ?_⟩
   cases n with
   | zero =>
    simp at e
    obtain ⟨rfl, rfl⟩ := e
    have hle : ln <= kc := by cases r <;> omega
    obtain ⟨vs, hvs⟩ := hnew w.drawn
    have hvs0 : vs = [] := by
     have := hvs.2.length
     simp at hnl
     rw [hnl] at this
     exact List.eq_nil_of_length_eq_zero this.symm
    subst hvs0
    refine ⟨μ, .slice ka ln kc, w, ?_, .refl W, r⟩
    have hle' : ln + 0 <= kc := hle
    cases ka with
    | none => simp [hvs.1, hle]
    | some a => simp [hvs.1, hle, storeCells]
   | succ m =>
    simp only at e
    obtain ⟨hc, e⟩ := aJ e
    simp at e
    obtain ⟨rfl, rfl⟩ := e
    simp only [Bool.and_eq_true] at hc
    obtain ⟨⟨c1, c2⟩, c3⟩ := hc
    have c1 := Nat.le_of_ble_eq_true c1
    have c2 := Nat.le_of_ble_eq_true c2
    have hmu : ∃ x, μ b = some x := by cases r <;> exact ⟨_, by assumption⟩
    have hkill : ∀ {μ' : Mu} {w' : World}, eS P μ μ' I w0 (h.kill b) ((h.kill b).new (.cells (old ++ new))) w' -> eS P μ μ' I w0 h ((h.kill b).new (.cells (old ++ new))) w' := by
     intro μ' w' g
     refine ⟨g.ext, g.rel, g.next, fun d hd hn => ?_⟩
     obtain ⟨p, q⟩ := g.cJ d hd hn
     refine ⟨p, q.trans ?_⟩
     rw [ah.bO, if_neg ?_]
     intro z; subst z; obtain ⟨x, hx⟩ := hmu; rw [hx] at hn; cases hn
    obtain ⟨us, hus⟩ := k4 ln (Nat.le_refl _)
    rw [List.take_of_length_le (by omega)] at hus
    by_cases hroom : ln + (m + 1) <= kc
    ·-- in place
     cases r with
     | jy => omega
     | slice hm h1 h2 =>
      rename_i B o N
      obtain ⟨hq1, hq2⟩ := dP ht
      obtain ⟨obj, ho, hor⟩ := W.bj _ _ _ _ _ hb hm
      cases hor with
      | cells g1 g2 g3 =>
       rename_i c elc
       obtain ⟨vs, hvs1, hvs2⟩ := hnew w.drawn
       have lv := hvs2.length
       have hmul : (ln + (m + 1)) * sz <= kc * sz := Nat.mul_le_mul_right _ hroom
       rw [Nat.add_mul] at hmul
       rw [hsz'] at hnl
       obtain ⟨c', s1, s2⟩ := iJ (P := P) (B := B) (o := o + off + ln * sz) vs 0 c w ho (by omega) (hvs2.oj c3)
       have Wk := (W.kill b).new (.cells (old ++ new))
       have hnn : μ h.next = none := W.fg
       have hbn : b < h.next := W.live _ _ hb
       have hx : Ext μ (gH μ h.next (B, o + off, N)) I I := .gH hnn
       have hc's : c'.size = N := by
        rw [<- Array.length_toList, s2]; simp; omega
       have hORel : kR (gH μ h.next (B, o + off, N)) I (.cells (old ++ new)) (o + off) N (.cells c' elc (0, 0)) := by
        refine .cells hc's (by simp; omega) fun j a ej => ?_
        rw [<- Array.getElem?_toList, s2]
        simp only [Nat.add_zero]
        have ht' : (c.toList.take (o + off + ln * sz)).length = o + off + ln * sz := by simp; omega
        by_cases cj : j < ln * sz
        ·rw [List.getElem?_append_left (by omega)] at ej
         rw [List.append_assoc, List.getElem?_append_left (by omega), List.getElem?_take, if_pos (by omega)]
         rw [hq1, List.getElem?_take, if_pos cj, List.getElem?_drop] at ej
         obtain ⟨y, y1, y2⟩ := g3 _ _ ej
         exact ⟨y, by rw [show o + off + j = o + (off + j) from by omega]; simpa using y1, y2.mono hx⟩
        ·rw [List.getElem?_append_right (by omega)] at ej
         rw [List.append_assoc, List.getElem?_append_right (by omega), ht']
         rw [show o + off + j - (o + off + ln * sz) = j - old.length from by omega]
         obtain ⟨y, y1, y2⟩ := hvs2.get ej
         have hlt := (List.getElem?_eq_some_iff.1 y1).1
         exact ⟨y, by rw [List.getElem?_append_left hlt]; exact y1, y2.mono hx⟩
       obtain ⟨m1, m2, m3⟩ := W.mapped _ _ _ _ hm
       have W' := Wk.take (b := h.next) (B := B) (o := o + off) (N := N) (q := .cells c' elc (0, 0)) (by rw [ah.aQ]; exact if_pos rfl) hnn m1 m2 ?_ ?_ hORel
       ·refine ⟨gH μ h.next (B, o + off, N), .slice (some ⟨B, o + off, none⟩) (ln + (m + 1)) kc, w.bV B (.cells c' elc (0, 0)), ?_, hkill ⟨hx, W', Nat.le_succ _, fun d hd hdn => ?_⟩, ?_⟩
        ·simp only [hroom, if_true, Sem.run_bind, hvs1, Result.andThen_ok, dZ, hsz', s1, Sem.run_pure]
        ·have hne : d ≠ h.next := by have : d < h.next := hd; omega
         exact ⟨by rw [dN _ _ hne]; exact hdn, by rw [ah.aQ]; exact if_neg hne⟩
        ·have := aG.slice (I := I) (off := 0) (len := ln + (m + 1)) (cap := kc) (sz := i.size) (bR μ h.next (B, o + off, N)) hroom (by rw [hsz']; omega)
         simpa [ah.kill] using this
       ·intro d x o' N' hd hmd
        rw [ah.aQ] at hd
        split at hd
        ·rename_i q'; rw [q'] at hmd; rw [show (h.kill b).next = h.next from rfl, hnn] at hmd; cases hmd
        ·rw [ah.bO] at hd
         split at hd
         ·cases hd
         ·rename_i q1 q2; exact q2 (W.inj _ _ _ _ _ _ _ _ _ hd hb hmd hm)
       ·intro o' y hy
        exact (W.wc _ _ _ hy).2.2 _ _ _ _ hb hm
    ·obtain ⟨_, _, _, k4'⟩ := j6 (P := P) (W.drew (w.drawn + 1)) he r
     obtain ⟨us', hus'⟩ := k4' ln (Nat.le_refl _)
     rw [List.take_of_length_le (by omega)] at hus'
     obtain ⟨μ', u, w', g1, g2, g3⟩ := grow ka ln kc (h.kill b) old (by omega) c1 c2 (W.kill b) ⟨us', hus'.1, hus'.2⟩ (by rw [k1])
     refine ⟨μ', u, w', ?_, hkill g2, g3⟩
     simp only [hroom, if_false]
     exact_mod_cast g1
 ·cases e
theorem xZ (W : bL μ I w0 h w) {st xt : TypeId} {s x v : AV} {s' x' : Value} {h' : ah} {ty : TypeId} (e : gR P h st xt s x = some (v, h')) (r : aG μ I s s') (q : aG μ I x x') :
  ∃ μ' u w', (Builtin.append_ #[st, xt] ty #[s', x']).run P w = .ok u w' /\ eS P μ μ' I w0 h h' w' /\ aG μ' I v u := by
 unfold gR at e
 split at e
 case h_2 => cases e
 case h_1 el hu =>
 split at e
 case h_2 => cases e
 case h_1 i z xd hi hz hx =>
 obtain ⟨hc, e⟩ := aJ e
 simp only [Bool.and_eq_true] at hc
 obtain ⟨⟨c1, c2⟩, c3⟩ := hc
 have c1 := aq c1
 have c2 := jI c2
 obtain ⟨i', zv, hi', hzv, rfl, _⟩ := cK (P := P) hz w
 rw [hi] at hi'; cases hi'
 have hzr : aL μ I (x8 zv).cells zv.cells.toList := jL (gM zv) c3
 have lz := hzr.length
 simp only [Array.length_toList] at lz
 have hzs : zv.cells.size = i.size := by omega
 have hzrun : ∀ w, (zeroValue el).run P w = .ok zv w := by
  intro w
  obtain ⟨i', zv', hi', hzv', hq, hrun⟩ := cK (P := P) hz w
  rw [hi] at hi'; cases hi'
  rw [hzv] at hzv'; cases hzv'
  exact hrun
 have hs : aA P el = some i.size := by simp [aA, hi]
 split at e
 case h_2 => cases e
 case h_1 n new hn =>
 -- what is appended
 have e0 := e
 unfold appended at hn
 split at hn
 ·rename_i k
  split at hn
  case h_2 => cases hn
  rename_i k' m
  obtain ⟨hb, hn⟩ := aJ hn
  have hb := Nat.le_of_ble_eq_true hb
  simp at hn
  obtain ⟨rfl, rfl⟩ := hn
  have hx'v : x' = .int k' (Int.ofNat m) := by cases q; rfl
  subst hx'v
  have hnewrun : ∀ j, ∃ vs : List Value, (if m * i.size = 0 then pure #[] else do pure (Builtin.zeroCells (<- zeroValue el).cells m) : Sem (Array Value)).run P { w with drawn := j } = .ok vs.toArray { w with drawn := j } /\ aL μ I (dE (x8 zv).cells m) vs := by
   intro j
   have hr0 := jF zv.cells (m * zv.cells.size) (by omega)
   have hbase : aL μ I (dE (x8 zv).cells m) (Builtin.zeroCells zv.cells m).toList := by
    unfold Builtin.zeroCells
    exact pk hzr m hr0.1 hr0.2
   by_cases h0 : m * i.size = 0
   ·have hm0 : m = 0 := by rcases Nat.mul_eq_zero.1 h0 with h | h <;> omega
    subst hm0
    exact ⟨[], by simp, .nil⟩
   ·exact ⟨(Builtin.zeroCells zv.cells m).toList, by simp [h0, hzrun], hbase⟩
  obtain ⟨base, sLen, sCap, rfl, μ', u, w', g1, g2, g3⟩ := qI (P := P) W hi hzrun hzs true _ (.int k' (Int.ofNat m)) hnewrun (by rw [dQ, c1]) e r
  refine ⟨μ', u, w', ?_, g2, g3⟩
  rw [<- g1]
  have hw : IntKind.i64.wrap (m : Int) = m := wh hb
  have hbytes : ¬ ((m : Int) * (i.bytes : Int) > 2 ^ 48) := by
   have : ((m : Int) * (i.bytes : Int)) = ((m * i.bytes : Nat) : Int) := by push_cast; rfl
   rw [this]
   have : m * i.bytes <= 281474976710656 := by
    cases hm : m with
    | zero => simp
    | succ m' =>
     subst hm
     have h2 : ∀ L : Nat, (2 * (L + (m' + 1)) + 1024) * i.bytes <= 140737488355328 -> (m' + 1) * i.bytes <= 281474976710656 := by
      intro L hL
      have : (m' + 1) * i.bytes <= (2 * (L + (m' + 1)) + 1024) * i.bytes := Nat.mul_le_mul_right _ (by omega)
      omega
     unfold da at e0
     split at e0
     ·obtain ⟨hc, _⟩ := aJ e0
      simp only [Bool.and_eq_true] at hc
      exact h2 0 (by have := Nat.le_of_ble_eq_true hc.1.1; simpa using this)
     ·split at e0
      ·obtain ⟨hc, _⟩ := aJ e0
       simp only [Bool.and_eq_true] at hc
       exact h2 _ (Nat.le_of_ble_eq_true hc.1.1)
      ·cases e0
     ·cases e0
   omega
  have hneg : ¬ ((m : Int) < 0) := by omega
  have a0 : (#[st, xt] : Array TypeId)[0]? = some st := rfl
  have a1 : (#[st, xt] : Array TypeId)[1]? = some xt := rfl
  have a2 : ∀ a b : Value, (#[a, b] : Array Value)[0]? = some a := fun _ _ => rfl
  have a3 : ∀ a b : Value, (#[a, b] : Array Value)[1]? = some b := fun _ _ => rfl
  simp only [Builtin.append_, a0, a1, a2, a3, Sem.run_bind, run_underlying hu, run_underlying hx, Result.andThen_ok, run_sizeOf hs]
  simp only [asInt, asIntOf, Sem.run_bind, Sem.run_pure, Result.andThen_ok, if_true, Bool.not_true, Bool.false_eq_true, if_false, Int.ofNat_eq_natCast, hw, hneg, run_typeInfo hi, hbytes, Int.toNat_natCast]
  rfl
 ·rename_i nany
  have hne : ∀ k, xd ≠ .int k := fun k hk => nany k hk
  obtain ⟨k1, k2, ⟨ka, kc, k3⟩, k4⟩ := j6 (P := P) W hn q
  have hnewrun : ∀ j, ∃ vs : List Value, (Builtin.firstCells i.size n x').run P { w with drawn := j } = .ok vs.toArray { w with drawn := j } /\ aL μ I new vs := by
   intro j
   obtain ⟨_, _, _, k4⟩ := j6 (P := P) (W.drew j) hn q
   obtain ⟨vs, h1, h2⟩ := k4 n (Nat.le_refl _)
   rw [List.take_of_length_le (by omega)] at h2
   exact ⟨vs, h1, h2⟩
  obtain ⟨base, sLen, sCap, rfl, μ', u, w', g1, g2, g3⟩ := qI (P := P) W hi hzrun hzs false _ x' hnewrun k1 e r
  refine ⟨μ', u, w', ?_, g2, g3⟩
  have a0 : (#[st, xt] : Array TypeId)[0]? = some st := rfl
  have a1 : (#[st, xt] : Array TypeId)[1]? = some xt := rfl
  have a2 : ∀ a b : Value, (#[a, b] : Array Value)[0]? = some a := fun _ _ => rfl
  have a3 : ∀ a b : Value, (#[a, b] : Array Value)[1]? = some b := fun _ _ => rfl
  cases xd <;> first
   | exact absurd rfl (hne _)
   | (simp only [Builtin.append_, a0, a1, a2, a3, Sem.run_bind, run_underlying hu, run_underlying hx, Result.andThen_ok, run_sizeOf hs, Sem.run_pure, Bool.false_eq_true, if_false, k2, Bool.not_false, if_true, false_or] at g1 ⊢; exact g1)
theorem A3 (W : bL μ I w0 h w) {t : TypeId} {d s v : AV} {d' s' : Value} {h' : ah} {ts : Array TypeId} {ty : TypeId} (ht : ts[0]? = some t) (e : uX P h t d s = some (v, h')) (r : aG μ I d d') (q : aG μ I s s') :
  ∃ u w', (Builtin.copy_ ts ty #[d', s']).run P w = .ok u w' /\ eS P μ μ I w0 h h' w' /\ aG μ I v u := by
 unfold uX at e
 split at e
 case h_2 => cases e
 case h_1 el hu =>
 split at e
 case h_2 => cases e
 case h_1 sz hs =>
 cases hel : elems h sz s with
 | none => rw [hel] at e; simp at e
 | some nl =>
  obtain ⟨n, new⟩ := nl
  rw [hel] at e
  obtain ⟨k1, k2, _, k4⟩ := j6 (P := P) W hel q
  have a2 : ∀ a b : Value, (#[a, b] : Array Value)[0]? = some a := fun _ _ => rfl
  have a3 : ∀ a b : Value, (#[a, b] : Array Value)[1]? = some b := fun _ _ => rfl
  cases r <;> simp only at e <;> first | (cases e; done) | skip
  case aV =>
   simp at e
   obtain ⟨rfl, rfl⟩ := e
   obtain ⟨vs, h1, h2⟩ := k4 0 (Nat.zero_le _)
   refine ⟨.int .i64 0, w, ?_, .refl W, .int _ _⟩
   simp [Builtin.copy_, ht, a2, a3, run_underlying hu, k2, run_sizeOf hs, h1, goInt]
  case slice b off len sz' cap B o N hm hl hN =>
   cases hb : h.get b with
   | none => rw [hb] at e; cases e
   | some ob =>
    rw [hb] at e
    split at e
    case h_2 => cases e
    case h_1 cs hq =>
    cases hq
    obtain ⟨hc, e⟩ := aJ e
    simp at e
    obtain ⟨rfl, rfl⟩ := e
    simp only [Bool.and_eq_true] at hc
    obtain ⟨⟨c1, c2⟩, c3⟩ := hc
    have c1 := aq c1
    have c2 := Nat.le_of_ble_eq_true c2
    subst c1
    obtain ⟨vs, h1, h2⟩ := k4 (Nat.min n len) (Nat.min_le_left _ _)
    obtain ⟨obj, ho, hor⟩ := W.bj _ _ _ _ _ hb hm
    cases hor with
    | cells g1 g2 g3 =>
     rename_i c elc
     have hle : Nat.min n len * sz <= len * sz := Nat.mul_le_mul_right _ (Nat.min_le_right _ _)
     have hle2 : Nat.min n len * sz <= n * sz := Nat.mul_le_mul_right _ (Nat.min_le_left _ _)
     have ln : (new.take (Nat.min n len * sz)).length = Nat.min n len * sz := by simp; omega
     have lv := h2.length
     have hone : (new.take (Nat.min n len * sz)).all AV.one = true := by
      rw [List.all_eq_true] at c3 ⊢
      intro x hx
      exact c3 x (List.mem_of_mem_take hx)
     obtain ⟨c', s1, s2⟩ := iJ (P := P) (B := B) (o := o + off) vs 0 c w ho (by omega) (h2.oj hone)
     obtain ⟨z1, z2, z3⟩ := oH (off := off) g1 g2 g3 h2 (by omega) s2
     have W' := W.update hb hm (.cells (e := elc) z1 z2 z3)
     refine ⟨.int .i64 (Nat.min n len), w.bV B (.cells c' elc (0, 0)), ?_, ⟨.refl _ _, W', Nat.le_refl _, fun d hd hn => ⟨hn, ?_⟩⟩, .int _ _⟩
     ·simp [Builtin.copy_, ht, a2, a3, run_underlying hu, k2, run_sizeOf hs, h1, goInt, s1]
     ·rw [ah.aP, if_neg (fun q => by subst q; rw [hm] at hn; cases hn)]
  case jy b off sz' B o N a hm =>
   cases hb : h.get b with
   | none => rw [hb] at e; cases e
   | some ob =>
    rw [hb] at e
    split at e
    case h_2 => cases e
    case h_1 cs hq =>
    cases hq
    obtain ⟨hc, e⟩ := aJ e
    simp at e
    obtain ⟨rfl, rfl⟩ := e
    obtain ⟨vs, h1, h2⟩ := k4 0 (Nat.zero_le _)
    have hmin : Nat.min n 0 = 0 := Nat.min_zero n
    have hvs : vs = [] := by
     have := h2.length
     simp at this
     exact List.eq_nil_of_length_eq_zero this.symm
    subst hvs
    obtain ⟨obj, ho, hor⟩ := W.bj _ _ _ _ _ hb hm
    cases hor with
    | cells g1 g2 g3 =>
     rename_i c elc
     have hsp : aB cs off [] = cs := by simp [aB]
     have W' := W.update hb hm (ob' := .cells cs) (.cells (e := elc) g1 g2 g3)
     rw [mP w ho] at W'
     refine ⟨.int .i64 0, w, ?_, ⟨.refl _ _, by rw [hsp]; exact W', Nat.le_refl _, fun d hd hn => ⟨hn, ?_⟩⟩, .int _ _⟩
     ·simp [Builtin.copy_, ht, a2, a3, run_underlying hu, k2, run_sizeOf hs, h1, goInt, storeCells]
     ·rw [ah.aP, if_neg (fun q => by subst q; rw [hm] at hn; cases hn)]
end
end Go.a9
namespace Go.a9
open Go.RowKit (Below)
section
variable {P : Program} {μ : Mu} {I : fu} {w0 w : World} {h h' : ah}
theorem w9 {k v : AV} {uk uv : Value} (rk : aG μ I k uk) (rv : aG μ I v uv) : ∀ (i : Nat) {es : List dH} {ms : List MapEntry}, g7 μ I es ms -> g7 μ I (BE i k v es) (ms.modify i fun e => { e with key := uk, val := uv })
 | i, _, _, .nil => by cases i <;> exact .nil
 | 0, _, _, .cons h1 h2 h3 h4 => by
  simp only [BE, List.modify_zero_cons]
  exact .cons rk rv h3 h4
 | i + 1, _, _, .cons h1 h2 h3 h4 => by
  simp only [BE, List.modify_succ_cons]
  exact .cons h1 h2 h3 (w9 rk rv i h4)
theorem g7.push {es : List dH} {ms : List MapEntry} {a : dH} {c : MapEntry} (r : g7 μ I es ms) (h1 : aG μ I a.key c.key) (h2 : aG μ I a.val c.val) (h3 : a.born = c.born) : g7 μ I (es ++ [a]) (ms ++ [c]) := by
 induction r with
 | nil => exact .cons h1 h2 h3 .nil
 | cons a b d _ ih => exact .cons a b d ih
theorem xX {f : AV -> AV -> Bool} {g : Value -> Value -> Bool} (hf : ∀ a b u v, f a b = true -> aG μ I a u -> aG μ I b v -> g u v = true) : ∀ {xs ys : List AV} {us vs : List Value}, cO f xs ys = true -> aL μ I xs us -> aL μ I ys vs -> us.length = vs.length /\ ((us.zip vs).all fun p => g p.1 p.2) = true
 | [], [], _, _, _, .nil, .nil => ⟨rfl, rfl⟩
 | [], _ :: _, _, _, e, _, _ => by simp [cO] at e
 | _ :: _, [], _, _, e, _, _ => by simp [cO] at e
 | x :: xs, y :: ys, _, _, e, .cons a b, .cons c d => by
  simp only [cO, Bool.and_eq_true] at e
  obtain ⟨i1, i2⟩ := xX hf e.2 b d
  exact ⟨by simp [i1], by simp only [List.zip_cons_cons, List.all_cons, hf _ _ _ _ e.1 a c, i2, Bool.and_self]⟩
theorem uo : ∀ (n : Nat) (a b : AV) (u v : Value), wL n a b = true -> aG μ I a u -> aG μ I b v -> Instr.sameBits n u v = true
 | 0, _, _, _, _, e, _, _ => by simp [wL] at e
 | n + 1, a, b, u, v, e, r, q => by
  unfold wL at e
  split at e
  ·cases r; cases q; simpa [Instr.sameBits] using e
  ·cases r; cases q; simpa [Instr.sameBits] using e
  ·cases r; cases q; simpa [Instr.sameBits, pO] using e
  ·cases r with | agg r => ?_
   cases q with | agg q => ?_
   have hl := xX (uo n) e r q
   simp only [Array.length_toList] at hl
   simp only [Instr.sameBits, Bool.and_eq_true, beq_iff_eq]
   exact hl
  ·cases e
theorem l7 (W : bL μ I w0 h w) {t : TypeId} {m k v : AV} {um uk uv : Value} (e : gC P h t m k v = some h') (rm : aG μ I m um) (rk : aG μ I k uk) (rv : aG μ I v uv) :
  ∃ w', (Instr.mapUpdate t um uk uv).run P w = .ok () w' /\ eS P μ μ I w0 h h' w' := by
 unfold gC at e
 split at e
 case h_2 => cases e
 rename_i kt d et hmo
 obtain ⟨ht, hk⟩ := sM hmo
 split at e
 case h_2 => cases e
 rename_i b
 cases rm with | map hmu => ?_
 rename_i B o N
 split at e
 case h_2 => cases e
 rename_i es ck hb
 obtain ⟨hok, e⟩ := aJ e
 obtain ⟨obj, ho, hr⟩ := W.bj _ _ _ _ _ hb hmu
 cases hr with | map hes => ?_
 rename_i l
 have hg : (getObj B).run P w = .ok (.map l ck) w := by simp [getObj, Sem.run, ho]
 have hck : (Instr.checkKey false 10000 kt uk).run P w = .ok () w := mB w 10000 hok rk
 have gH : ∀ (es' : List dH) (l' : Array MapEntry) (ck' : Nat), g7 μ I es' l'.toList -> eS P μ μ I w0 h (h.set b (.map es' ck')) (w.bV B (.map l' ck')) := fun es' l' ck' hE =>
  ⟨.refl _ _, W.update hb hmu (.map hE), Nat.le_refl _, fun c hc ec => ⟨ec, by rw [ah.aP, if_neg (fun q => by subst q; rw [hmu] at ec; cases ec)]⟩⟩
 cases hf : j5 P kt d k es 0 with
 | none => rw [hf] at e; cases e
 | some r =>
  rw [hf] at e
  obtain ⟨p, h1, h2⟩ := qD hk rk w hf hes
  cases h2 with
  | none =>
   simp at e
   subst e
   refine ⟨_, ?_, gH _ (l.push { key := uk, val := uv, born := ck }) (ck + 1) (by simpa using hes.push rk rv rfl)⟩
   simp [Instr.mapUpdate, run_underlying ht, hg, hck, h1, setObj, Sem.run, ho]
   rfl
  | some hm h3 h4 h5 h6 =>
   rename_i i old vold u' x' mm
   simp at e
   obtain ⟨hs, e⟩ := aJ e
   simp at e
   subst e
   have hsb := uo 10000 _ _ _ _ hs h5 rk
   have hli : l[i]? = some mm := by rw [<- Array.getElem?_toList]; exact hm
   refine ⟨_, ?_, gH _ (l.modify i fun e => { e with key := uk, val := uv }) ck (by rw [Array.toList_modify]; exact w9 rk rv i hes)⟩
   simp [Instr.mapUpdate, run_underlying ht, hg, hck, h1, hli, h3, Instr.keyThatStays, hsb, setObj, Sem.run, ho]
   rfl
end
end Go.a9
namespace Go.a9
open Go.RowKit (Below)
theorem ml (tm : Tr AV) (d t : Nat) (v : AV) : bJ (tm.set d v) t = if t = d then v else bJ tm t := by
 unfold bJ
 rw [Tr.aP]
 by_cases h : t = d <;> simp [h]
section
variable {P : Program} {h h' : ah} {tm tm' : Tr AV} {o : Oper}
theorem ot {l : List Operand} (e : ∀ x ∈ l, evalOp tm x = evalOp tm' x) : l.map (evalOp tm) = l.map (evalOp tm') := List.map_congr_left e
theorem oN (e : ∀ x ∈ o.op.operands.toList, evalOp tm x = evalOp tm' x) : bz P h tm o = bz P h tm' o := by
 obtain ⟨dst, op, type, pos, after, guard⟩ := o
 cases op <;> simp only [bz]
 case move x => rw [e x (by simp [Op.operands])]
 case assign x => rw [e x (by simp [Op.operands])]
 case pick c a b => rw [e c (by simp [Op.operands]), e a (by simp [Op.operands]), e b (by simp [Op.operands])]
 case build t parts =>
  congr 1
  refine List.map_congr_left fun p hp => ?_
  rw [e p.2 (by simp [Op.operands]; exact ⟨p.1, by simpa using hp⟩)]
 case load t a => rw [e a (by simp [Op.operands])]
 case nilCheck x => rw [e x (by simp [Op.operands])]
 case binOp op t x y yt => rw [e x (by simp [Op.operands]), e y (by simp [Op.operands])]
 case unOp op t x => rw [e x (by simp [Op.operands])]
 case convert s t x => rw [e x (by simp [Op.operands])]
 case makeInterface t x => rw [e x (by simp [Op.operands])]
 case makeFunc fn first captured =>
  cases fn <;> simp only
  rw [ot (tm := tm) (tm' := tm') (fun y hy => e y (by simp [Op.operands]; left; simpa using hy)), ot (tm := tm) (tm' := tm') (l := captured.toList) (fun y hy => e y (by simp [Op.operands]; right; simpa using hy))]
 case slice t x lo hi mx =>
  cases mx with
  | some m => rfl
  | none =>
   have h1 : fA tm lo = fA tm' lo := by
    cases lo with
    | none => rfl
    | some y => simp [fA, e y (by simp [Op.operands])]
   have h2 : fA tm hi = fA tm' hi := by
    cases hi with
    | none => rfl
    | some y => simp [fA, e y (by simp [Op.operands])]
   simp only
   rw [e x (by simp [Op.operands]), h1, h2]
 case lookup t x i ok => rw [e x (by simp [Op.operands]), e i (by simp [Op.operands])]
 case fieldAddr t x f => rw [e x (by simp [Op.operands])]
 case field t x f => rw [e x (by simp [Op.operands])]
 case indexAddr t x i => rw [e x (by simp [Op.operands]), e i (by simp [Op.operands])]
 case index t x i => rw [e x (by simp [Op.operands]), e i (by simp [Op.operands])]
 case typeAssert x xt t ok => rw [e x (by simp [Op.operands])]
 case extract x i => rw [e x (by simp [Op.operands])]
 case call c =>
  obtain ⟨callee, args, argTypes⟩ := c
  cases callee <;> simp only
  rename_i b
  have ha : ∀ x ∈ args.toList, evalOp tm x = evalOp tm' x := fun x hx => e x (by simp [Op.operands, Call.operands]; simpa using hx)
  split
  ·rename_i x hx
   rw [hx] at ha
   split
   ·rw [ha x (by simp)]
   ·rfl
  ·rename_i x xs hx
   rw [hx] at ha
   rw [ha x (by simp), ot (tm := tm) (tm' := tm') (fun y hy => ha y (by simp [hy]))]
  ·rename_i x xs hx
   rw [hx] at ha
   rw [ha x (by simp), ot (tm := tm) (tm' := tm') (fun y hy => ha y (by simp [hy]))]
  ·rfl
theorem oO {b : Nat} (e : ∀ x ∈ o.op.operands.toList, evalOp tm x = evalOp tm' x) : bH P b tm o = bH P b tm' o := by
 obtain ⟨dst, op, type, pos, after, guard⟩ := o
 cases op <;> simp only [bH]
 case box t x => rw [e x (by simp [Op.operands])]
 case buildSlice t len parts =>
  have : (parts.toList.map fun p => (p.1, evalOp tm p.2)) = (parts.toList.map fun p => (p.1, evalOp tm' p.2)) := by
   refine List.map_congr_left fun p hp => ?_
   rw [e p.2 (by simp [Op.operands]; exact ⟨p.1, by simpa using hp⟩)]
  rw [this]
 case makeSlice t l c => rw [e l (by simp [Op.operands]), e c (by simp [Op.operands])]
 case makeMap t r =>
  cases r with
  | none => rfl
  | some x => simp only; rw [e x (by simp [Op.operands])]
def Sub (h h' : ah) : Prop := ∀ b ob, h.get b = some ob -> h'.get b = some ob
theorem As (s : Sub h h') {a : AV} {cs : List AV} (e : rowAt h a = some cs) : rowAt h' a = some cs := by
 cases a <;> simp only [rowAt] at e ⊢ <;> first | exact e | skip
 split at e
 ·rename_i q; rw [s _ _ q]; exact e
 ·cases e
theorem ma (hr : reads o = false) : bz P h tm o = bz P h' tm o := by
 obtain ⟨dst, op, type, pos, after, guard⟩ := o
 cases op
 case makeFunc fn a b => cases fn <;> rfl
 all_goals first | rfl | (simp [reads] at hr; done)
theorem zh (s : Sub h h') {t : TypeId} {a v : AV} {lo hi : Option AV} (e : jJ P h t a lo hi = some v) : jJ P h' t a lo hi = some v := by
 unfold jJ at e ⊢
 cases hu : P.underlying t with
 | none => rw [hu] at e; cases e
 | some d =>
  rw [hu] at e
  cases d <;> simp only at e ⊢ <;> first | exact e | skip
  cases a <;> simp only at e ⊢ <;> first | exact e | skip
  rename_i b off
  cases hb : h.get b with
  | none => rw [hb] at e; cases e
  | some ob => rw [s _ _ hb]; rw [hb] at e; exact e
theorem Ce (s : Sub h h') {t : TypeId} {a v : AV} (e : rf P h t a = some v) : rf P h' t a = some v := by
 unfold rf at e ⊢
 cases hu : P.underlying t with
 | none => rw [hu] at e; cases e
 | some d =>
  rw [hu] at e
  cases d <;> simp only at e ⊢ <;> first | exact e | skip
  cases a <;> simp only at e ⊢ <;> first | exact e | skip
  rename_i b
  cases hb : h.get b with
  | none => rw [hb] at e; cases e
  | some ob => rw [s _ _ hb]; rw [hb] at e; exact e
theorem tK (s : Sub h h') {a : AV} {es : List dH} (e : entriesOf h a = some es) : entriesOf h' a = some es := by
 cases a <;> simp only [entriesOf] at e ⊢ <;> first | exact e | skip
 rename_i b
 cases hb : h.get b with
 | none => rw [hb] at e; cases e
 | some ob => rw [s _ _ hb]; rw [hb] at e; exact e
theorem xU (s : Sub h h') {t : TypeId} {a i v : AV} {ok : Bool} (e : mI P h t a i ok = some v) : mI P h' t a i ok = some v := by
 unfold mI at e ⊢
 cases hm : mapOf P t with
 | none => rw [hm] at e; cases e
 | some q =>
  rw [hm] at e
  obtain ⟨kt, d, et⟩ := q
  simp only at e ⊢
  cases he : entriesOf h a with
  | none => rw [he] at e; cases e
  | some es => rw [tK s he]; rw [he] at e; exact e
theorem zm (s : Sub h h') {v : AV} (e : bz P h tm o = some v) : bz P h' tm o = some v := by
 obtain ⟨dst, op, type, pos, after, guard⟩ := o
 cases op
 case load t a =>
  simp only [bz, fE] at e ⊢
  cases hr : rowAt h (evalOp tm a) with
  | none => rw [hr] at e; cases e
  | some cs => rw [As s hr]; rw [hr] at e; exact e
 case lookup t x i ok => simp only [bz] at e ⊢; exact xU s e
 case slice t x lo hi mx =>
  cases mx with
  | some m => simp only [bz] at e; cases e
  | none => simp only [bz] at e ⊢; exact zh s e
 case call c =>
  obtain ⟨callee, args, argTypes⟩ := c
  cases callee
  case builtin b =>
   simp only [bz] at e ⊢
   generalize args.toList = l at e ⊢
   generalize argTypes.toList = ts at e ⊢
   cases b <;> cases l <;> first | exact e | skip
   rename_i x xs
   cases xs with
   | cons y ys => exact e
   | nil =>
    cases ts with
    | nil => exact e
    | cons t ts => exact Ce s e
  all_goals (simp only [bz] at e; cases e)
 all_goals first
  | (rw [<- ma (h := h) (h' := h') rfl]; exact e)
  | exact e
theorem AV.beq_eq : ∀ (n : Nat) {x y : AV}, AV.beq n x y = true -> x = y := by
 intro n
 induction n with
 | zero => intro x y e; simp [AV.beq] at e
 | succ n ih =>
  have lists : ∀ {a b : List AV}, cO (AV.beq n) a b = true -> a = b := by
   intro a
   induction a with
   | nil => intro b e; cases b <;> simp [cO] at e ⊢
   | cons p a iha =>
    intro b e
    cases b with
    | nil => simp [cO] at e
    | cons q b =>
     simp only [cO, Bool.and_eq_true] at e
     rw [ih e.1, iha e.2]
  intro x y e
  unfold AV.beq at e
  split at e <;> first | rfl | (cases e; done) | skip
  all_goals try simp only [Bool.and_eq_true, decide_eq_true_eq] at e
  ·rw [beq_iff_eq.1 e]
  ·rw [e.1, e.2]
  ·rw [e]
  ·rw [aq e.1, aq e.2]
  ·rw [lists e]
  ·rw [aq e.1.1.1, aq e.1.1.2, aq e.1.2, aq e.2]
  ·rw [lists e.1.1, aq e.1.2, aq e.2]
  ·rw [aq e]
  ·rw [aq e.1.1, lists e.1.2, lists e.2]
  ·rw [aq e]
  ·rw [aq e.1, ih e.2]
  ·rw [lists e]
  ·rw [lists e]
end
inductive tB (ops : Array Oper) : Nat -> Nat -> Prop
 | base {j i : Nat} {o : Oper} : ops[i]? = some o -> j ∈ cI o -> tB ops j i
 | step {j k i : Nat} {o : Oper} : tB ops j k -> ops[i]? = some o -> k ∈ cI o -> tB ops j i
structure tw (ops : Array Oper) (plan : List (Nat × List Nat)) : Prop where
 lt : ∀ i ∈ plan.map (·.1), i < ops.size
 nodup : (plan.map (·.1)).Nodup
 all : ∀ i, i < ops.size -> i ∈ plan.map (·.1)
 pred : ∀ i o p, ops[i]? = some o -> p ∈ cI o -> p < i
 ord : ∀ pre i c post, plan = pre ++ (i, c) :: post -> ∀ o, ops[i]? = some o ->
  (∀ p ∈ cI o, p ∈ pre.map (·.1)) /\
  (late o = true -> ∃ d, o.dst = some d /\ d ∉ looks ops o /\ ∀ k o', ops[k]? = some o' -> k ≠ i -> d ∈ names ops o' -> tB ops i k) /\
  (late o = false -> (∀ x ∈ post, tB ops i x.1) /\
   (∀ k ∈ pre.map (·.1), ∀ o', ops[k]? = some o' -> late o' = true -> reads o' = true -> tB ops k i \/ k ∈ c) /\
   (∀ d, o.dst = some d -> ∀ k o', ops[k]? = some o' -> late o' = true -> d ∈ names ops o' -> tB ops i k \/ tB ops k i))
theorem qe (a b i : Nat) : (Nat.lor a b).testBit i = (a.testBit i || b.testBit i) := Nat.testBit_or a b i
theorem xf {ops : Array Oper} {acc ps : List Nat} {i : Nat} {o : Oper} (ho : ops[i]? = some o) (hps : ∀ p ∈ ps, p ∈ cI o) (hacc : ∀ k j, (acc.getD k 0).testBit j = true -> tB ops j k) :
  ∀ j, (sL acc ps).testBit j = true -> tB ops j i := by
 induction ps with
 | nil => intro j e; simp [sL] at e
 | cons p ps ih =>
  intro j e
  have : sL acc (p :: ps) = Nat.lor (Nat.lor (2 ^ p) (acc.getD p 0)) (sL acc ps) := rfl
  rw [this, qe, qe, Bool.or_eq_true, Bool.or_eq_true] at e
  rcases e with (e | e) | e
  ·rw [Nat.testBit_two_pow] at e
   simp at e
   subst e
   exact .base ho (hps _ (by simp))
  ·exact .step (hacc _ _ e) ho (hps _ (by simp))
  ·exact ih (fun q hq => hps q (by simp [hq])) j e
theorem sK {ops : Array Oper} : ∀ (l : List Oper) (acc : List Nat), (∀ i, l[i]? = ops[acc.length + i]?) -> (∀ k j, (acc.getD k 0).testBit j = true -> tB ops j k) ->
  ∀ k j, ((xb l acc).getD k 0).testBit j = true -> tB ops j k
 | [], acc, _, hacc => hacc
 | o :: l, acc, hl, hacc => by
  simp only [xb]
  have h0 : ops[acc.length]? = some o := by have := hl 0; simpa using this.symm
  refine sK l _ (fun i => ?_) fun k j e => ?_
  ·have := hl (i + 1)
   simp only [List.length_append, List.length_cons, List.length_nil]
   rw [show acc.length + (0 + 1) + i = acc.length + (i + 1) from by omega]
   simpa using this
  ·by_cases hk : k < acc.length
   ·rw [List.getD_eq_getElem?_getD, List.getElem?_append_left hk, <- List.getD_eq_getElem?_getD] at e
    exact hacc k j e
   ·by_cases hk' : k = acc.length
    ·subst hk'
     rw [List.getD_eq_getElem?_getD, List.getElem?_append_right (by omega)] at e
     simp at e
     exact xf h0 (fun p hp => hp) hacc j e
    ·rw [List.getD_eq_getElem?_getD, List.getElem?_append_right (by omega), List.getElem?_eq_none (by simp; omega)] at e
     simp at e
theorem lQ : ∀ {l : List Nat}, cz l = true -> l.Nodup
 | [], _ => List.nodup_nil
 | x :: xs, e => by
  simp only [cz, Bool.and_eq_true, Bool.not_eq_true'] at e
  refine List.nodup_cons.2 ⟨?_, lQ e.2⟩
  intro hx
  have := List.elem_eq_true_of_mem hx
  rw [List.contains, this] at e
  cases e.1
theorem kK {l : List Nat} {x : Nat} (h : l.contains x = true) : x ∈ l := by simpa using h
theorem eG {l : List Nat} {x : Nat} (h : l.contains x = false) : x ∉ l := by
 intro hx
 have : l.contains x = true := by simpa using hx
 rw [h] at this; cases this
theorem fC {ops : Array Oper} {k : Nat} {o : Oper} (h : ops[k]? = some o) : (o, k) ∈ ops.toList.zipIdx := by
 rw [List.mem_zipIdx_iff_getElem?]
 simpa using h
theorem tH {ops : Array Oper} {m : List Nat} (hm : ∀ k j, nH m k j = true -> tB ops j k) : ∀ (rest : List (Nat × List Nat)) (pre0 : List Nat), oe ops ops.toList.zipIdx m pre0 rest = true ->
  ∀ pre i c post, rest = pre ++ (i, c) :: post -> ∀ o, ops[i]? = some o ->
  (∀ p ∈ cI o, p ∈ pre0 ++ pre.map (·.1)) /\
  (late o = true -> ∃ d, o.dst = some d /\ d ∉ looks ops o /\ ∀ k o', ops[k]? = some o' -> k ≠ i -> d ∈ names ops o' -> tB ops i k) /\
  (late o = false -> (∀ x ∈ post, tB ops i x.1) /\
   (∀ k ∈ pre0 ++ pre.map (·.1), ∀ o', ops[k]? = some o' -> late o' = true -> reads o' = true -> tB ops k i \/ k ∈ c) /\
   (∀ d, o.dst = some d -> ∀ k o', ops[k]? = some o' -> late o' = true -> d ∈ names ops o' -> tB ops i k \/ tB ops k i)) := by
 intro rest
 induction rest with
 | nil => intro pre0 _ pre i c post e; simp at e
 | cons x rest ih =>
  intro pre0 e pre i c post hr o ho
  obtain ⟨i0, c0⟩ := x
  simp only [oe, Bool.and_eq_true] at e
  obtain ⟨e1, e2⟩ := e
  cases pre with
  | nil =>
   simp only [List.nil_append, List.cons.injEq, Prod.mk.injEq] at hr
   obtain ⟨⟨rfl, rfl⟩, rfl⟩ := hr
   simp only [List.map_nil, List.append_nil]
   rw [ho] at e1
   simp only [Bool.and_eq_true, List.all_eq_true] at e1
   obtain ⟨e1, e3⟩ := e1
   refine ⟨fun p hp => kK (e1 p hp), fun hl => ?_, fun hl => ?_⟩
   ·rw [hl] at e3
    simp only [cond_true] at e3
    cases hd : o.dst with
    | none => rw [hd] at e3; cases e3
    | some d =>
     rw [hd] at e3
     simp only [Bool.and_eq_true, List.all_eq_true, Bool.not_eq_true'] at e3
     refine ⟨d, rfl, eG e3.1, fun k o' hk hne hn => ?_⟩
     have := e3.2 _ (fC hk)
     simp only [Bool.or_eq_true, Bool.not_eq_true'] at this
     rcases this with (q | q) | q
     ·exact absurd (aq q) hne
     ·exact absurd hn (eG q)
     ·exact hm _ _ q
   ·rw [hl] at e3
    simp only [cond_false, Bool.and_eq_true, List.all_eq_true] at e3
    obtain ⟨⟨a1, a2⟩, a3⟩ := e3
    refine ⟨fun x hx => hm _ _ (a1 x hx), fun k hk o' hk' h1 h2 => ?_, fun d hd k o' hk h1 hn => ?_⟩
    ·have := a2 k hk
     rw [hk'] at this
     simp only [h1, h2, Bool.not_true, Bool.false_or, Bool.or_eq_true] at this
     rcases this with q | q
     ·exact .inl (hm _ _ q)
     ·exact .inr (kK q)
    ·rw [hd] at a3
     simp only [List.all_eq_true] at a3
     have := a3 _ (fC hk)
     simp only [h1, Bool.not_true, Bool.false_or, Bool.or_eq_true, Bool.not_eq_true'] at this
     rcases this with (q | q) | q
     ·exact absurd hn (eG q)
     ·exact .inl (hm _ _ q)
     ·exact .inr (hm _ _ q)
  | cons y pre =>
   simp only [List.cons_append, List.cons.injEq] at hr
   obtain ⟨rfl, rfl⟩ := hr
   have := ih (pre0 ++ [i0]) e2 pre i c post rfl o ho
   simpa using this
theorem eX : ∀ (n : Nat) (l : List Nat), l.Nodup -> (∀ x ∈ l, x < n) -> l.length <= n
 | 0, l, _, h => by
  cases l with
  | nil => simp
  | cons x xs => have := h x (by simp); omega
 | n + 1, l, hn, h => by
  by_cases hm : n ∈ l
  ·have h1 := eX n (l.erase n) (hn.erase n) (fun x hx => by
    have h2 := h x (List.mem_of_mem_erase hx)
    have h3 : x ≠ n := fun q => by subst q; exact (hn.mem_erase_iff.1 hx).1 rfl
    omega)
   rw [List.length_erase_of_mem hm] at h1
   omega
  ·have h1 := eX n l hn (fun x hx => by
    have h2 := h x hx
    have h3 : x ≠ n := fun q => hm (q ▸ hx)
    omega)
   omega
theorem wV {ops : Array Oper} {plan : List (Nat × List Nat)} (e : sy ops plan = true) : tw ops plan := by
 simp only [sy, Bool.and_eq_true, List.all_eq_true] at e
 obtain ⟨⟨⟨⟨e1, e2⟩, e3⟩, e4⟩, e5⟩ := e
 have hlt : ∀ i ∈ plan.map (·.1), i < ops.size := fun i hi => jI (e1 i hi)
 have hnd := lQ e2
 have hm : ∀ k j, nH (xb ops.toList []) k j = true -> tB ops j k := by
  intro k j h
  refine sK ops.toList [] (fun i => by simp) (fun k j e => by simp at e) k j ?_
  exact h
 refine ⟨hlt, hnd, fun i hi => ?_, fun i o p ho hp => ?_, fun pre i c post hp o ho => ?_⟩
 ·-- a list of distinct numbers below n that is as long as n holds each
  have hlen : (plan.map (·.1)).length = ops.size := by simpa using aq e3
  exact Decidable.byContradiction fun hn => by
   have := eX ops.size (i :: plan.map (·.1)) (List.nodup_cons.2 ⟨hn, hnd⟩) (fun x hx => by
    rcases List.mem_cons.1 hx with rfl | hx
    ·exact hi
    ·exact hlt x hx)
   simp only [List.length_cons] at this
   omega
 ·have := e4 _ (fC ho)
  simp only [List.all_eq_true] at this
  exact jI (this p hp)
 ·have := tH hm plan [] e5 pre i c post hp o ho
  simpa using this
end Go.a9
namespace Go.a9
open Go.RowKit (Below)
structure Dq (ops : Array Oper) (L : List Nat) : Prop where
 nodup : L.Nodup
 lt : ∀ i ∈ L, i < ops.size
 ord : ∀ a i b, L = a ++ i :: b -> ∀ o, ops[i]? = some o -> ∀ p ∈ cI o, p ∈ a
theorem Dq.EV {ops : Array Oper} {L : List Nat} (h : Dq ops L) {j i : Nat} (c : tB ops j i) : ∀ {a b : List Nat}, L = a ++ i :: b -> j ∈ a := by
 induction c with
 | base ho hp => intro a b e; exact h.ord a _ b e _ ho _ hp
 | step _ ho hp ih =>
  rename_i k i o _
  intro a b e
  have hk := h.ord a _ b e _ ho _ hp
  obtain ⟨a1, a2, rfl⟩ := List.append_of_mem hk
  have := ih (a := a1) (b := a2 ++ i :: b) (by rw [e]; simp)
  simp [this]
theorem Dq.mz {ops : Array Oper} {L : List Nat} (h : Dq ops L) {a b : List Nat} {i j : Nat} (e : L = a ++ i :: b) (hj : j ∈ b) : ¬ tB ops j i := by
 intro hc
 have h1 := h.EV hc e
 have hn := h.nodup
 rw [e, List.nodup_append] at hn
 exact hn.2.2 _ h1 _ (List.mem_cons_of_mem _ hj) rfl
theorem D2 {ops : Array Oper} (hp : ∀ i o p, ops[i]? = some o -> p ∈ cI o -> p < i) : ∀ (fuel t : Nat) (listed : Array Bool) (acc : List Nat),
  listed.size = ops.size -> acc.length + fuel = ops.size -> acc.Nodup -> (∀ i, i < ops.size -> (listed.getD i false = true ↔ i ∈ acc)) -> (∀ i ∈ acc, i < ops.size) ->
  (∀ a i b, acc.reverse = a ++ i :: b -> ∀ o, ops[i]? = some o -> ∀ p ∈ cI o, p ∈ a) ->
  Dq ops (Region.linearise.go .any ops fuel t listed acc) /\ (Region.linearise.go .any ops fuel t listed acc).length = ops.size := by
 intro fuel
 induction fuel with
 | zero =>
  intro t listed acc hs hl hn hm hlt ho
  simp only [Region.linearise.go]
  exact ⟨⟨by unfold List.Nodup; rw [List.pairwise_reverse]; exact hn.imp Ne.symm, fun i hi => hlt i (by simpa using hi), ho⟩, by simp; omega⟩
 | succ fuel ih =>
  intro t listed acc hs hl hn hm hlt ho
  simp only [Region.linearise.go]
  have getD_eq : ∀ i, i < ops.size -> listed.getD i true = listed.getD i false := by
   intro i hi
   simp [Array.getD_eq_getD_getElem?, hs, hi]
  have hready : ∀ i, i ∈ ((List.range ops.size).filter fun i => !listed.getD i true && ((ops[i]?).map (·.after.all fun e => !Region.binds .any e || listed.getD e.on false)).getD false) ↔
    i < ops.size /\ i ∉ acc /\ ∀ o, ops[i]? = some o -> ∀ p ∈ cI o, p ∈ acc := by
   intro i
   rw [List.mem_filter, List.mem_range, Bool.and_eq_true]
   constructor
   ·rintro ⟨h1, h2, h3⟩
    rw [getD_eq i h1] at h2
    refine ⟨h1, fun hi => ?_, fun o hop p hpp => ?_⟩
    ·rw [(hm i h1).2 hi] at h2; cases h2
    ·rw [hop] at h3
     simp only [Option.map_some, Option.getD_some] at h3
     unfold cI at hpp
     rw [List.mem_filterMap] at hpp
     obtain ⟨e, he, hq⟩ := hpp
     rw [Array.all_eq_true'] at h3
     have := h3 e (by simpa using he)
     split at hq
     ·rename_i hb
      simp at hq
      subst hq
      simp only [hb, Bool.not_true, Bool.false_or] at this
      have hlt' := hp i o e.on hop (by unfold cI; rw [List.mem_filterMap]; exact ⟨e, he, by simp [hb]⟩)
      exact (hm _ (by omega)).1 this
     ·cases hq
   ·rintro ⟨h1, h2, h3⟩
    refine ⟨h1, ?_, ?_⟩
    ·rw [getD_eq i h1]
     cases hq : listed.getD i false with
     | true => exact absurd ((hm i h1).1 hq) h2
     | false => rfl
    ·have : ops[i]? = some ops[i] := by simp [h1]
     rw [this]
     simp only [Option.map_some, Option.getD_some]
     rw [Array.all_eq_true']
     intro e he
     cases hb : Region.binds .any e with
     | false => rfl
     | true =>
      have hpp : e.on ∈ cI ops[i] := by unfold cI; rw [List.mem_filterMap]; exact ⟨e, by simpa using he, by simp [hb]⟩
      have hlt' := hp i _ e.on this hpp
      simp only [Bool.not_true, Bool.false_or]
      exact (hm _ (by omega)).2 (h3 _ this _ hpp)
  generalize hrs : ((List.range ops.size).filter fun i => !listed.getD i true && ((ops[i]?).map (·.after.all fun e => !Region.binds .any e || listed.getD e.on false)).getD false) = rs at hready
  -- something is ready
  have hne : rs ≠ [] := by
   intro h0
   -- the least number that is not listed
   have : ∃ i, i < ops.size /\ i ∉ acc := by
    refine Decidable.byContradiction fun hno => ?_
    have hall : ∀ i, i < ops.size -> i ∈ acc := fun i hi => Decidable.byContradiction fun hq => hno ⟨i, hi, hq⟩
    have h1 : (List.range ops.size).length <= acc.length := by
     have hsub : ∀ x ∈ List.range ops.size, x ∈ acc := fun x hx => hall x (List.mem_range.1 hx)
     exact (List.nodup_range.length_le_of_subset hsub)
    simp at h1
    omega
   obtain ⟨i, hi, hia⟩ := this
   have key : ∀ n i, i <= n -> i < ops.size -> i ∉ acc -> ∃ j, j ∈ rs := by
    intro n
    induction n with
    | zero =>
     intro i hle hi hia
     have : i = 0 := by omega
     subst this
     exact ⟨0, (hready 0).2 ⟨hi, hia, fun o hop p hpp => by have := hp 0 o p hop hpp; omega⟩⟩
    | succ n ihn =>
     intro i hle hi hia
     by_cases hall : ∀ o, ops[i]? = some o -> ∀ p ∈ cI o, p ∈ acc
     ·exact ⟨i, (hready i).2 ⟨hi, hia, hall⟩⟩
     ·have : ∃ p, p < i /\ p ∉ acc := by
       refine Classical.byContradiction fun hno => hall fun o hop p hpp => Classical.byContradiction fun hq => hno ⟨p, hp i o p hop hpp, hq⟩
      obtain ⟨p, hp1, hp2⟩ := this
      exact ihn p (by omega) (by omega) hp2
   obtain ⟨j, hj⟩ := key i i (Nat.le_refl _) hi hia
   rw [h0] at hj
   cases hj
  have hpos : 0 < rs.length := List.length_pos_iff.2 hne
  have hlt2 : t % rs.length < rs.length := Nat.mod_lt _ hpos
  have hget : rs[t % rs.length]? = some (rs[t % rs.length]'hlt2) := List.getElem?_eq_getElem hlt2
  rw [hget]
  simp only
  generalize hi0 : rs[t % rs.length]'hlt2 = i
  have hi : i ∈ rs := by rw [<- hi0]; exact List.getElem_mem _
  obtain ⟨h1, h2, h3⟩ := (hready i).1 hi
  refine ih _ _ _ (by simpa using hs) (by simp; omega) (List.nodup_cons.2 ⟨h2, hn⟩) ?_ ?_ ?_
  ·intro k hk
   by_cases hki : i = k
   ·subst hki
    simp [Array.getD_eq_getD_getElem?, hs, h1]
   ·have : (listed.setIfInBounds i true).getD k false = listed.getD k false := by
     simp [Array.getD_eq_getD_getElem?, Array.getElem?_setIfInBounds_ne hki]
    rw [this, hm k hk]
    simp [Ne.symm hki]
  ·intro k hk
   rcases List.mem_cons.1 hk with rfl | hk
   ·exact h1
   ·exact hlt k hk
  ·intro a k b e o hop p hpp
   rw [List.reverse_cons] at e
   rcases List.append_eq_append_iff.1 e with ⟨c, hc1, hc2⟩ | ⟨c, hc1, hc2⟩
   ·-- a = acc.reverse ++ c
    cases c with
    | nil =>
     simp at hc2
     obtain ⟨rfl, rfl⟩ := hc2
     subst hc1
     have := h3 o hop p hpp
     simpa using this
    | cons x xs => simp at hc2
   ·cases c with
    | nil =>
     simp at hc1 hc2
     obtain ⟨rfl, rfl⟩ := hc2
     have := h3 o hop p hpp
     rw [<- hc1]
     simpa using this
    | cons x xs =>
     simp only [List.cons_append, List.cons.injEq] at hc2
     obtain ⟨rfl, rfl⟩ := hc2
     exact ho a k xs hc1 o hop p hpp
theorem vC {ops : Array Oper} (hp : ∀ i o p, ops[i]? = some o -> p ∈ cI o -> p < i) (t : Nat) :
  Dq ops (Region.schedule true ops t) /\ (Region.schedule true ops t).length = ops.size := by
 simp only [Region.schedule, Bool.true_or, if_true, Region.linearise]
 exact D2 hp ops.size t (Array.replicate ops.size false) [] (by simp) (by simp) List.nodup_nil (fun i hi => by simp [Array.getD_eq_getD_getElem?, hi]) (by simp) (by simp)
end Go.a9
namespace Go.a9
open Go.RowKit (Below)
set_option linter.unusedSectionVars false
inductive j7 (μ : Mu) : bu -> Item -> Prop
 | code (c : Code) : j7 μ (.code c) (.code c)
 | inBlock (id : Nat) : j7 μ (.inBlock id) (.inBlock id)
 | inLoop (b : Code) : j7 μ (.inLoop b) (.inLoop b)
 | inScope (b : Code) : j7 μ (.inScope b) (.inScope b)
 | kP (ops : Array Oper) (i : Nat) : j7 μ (.kP ops i (ops.toList.drop i)) (.inRegion ops (List.range' i (ops.size - i)))
 | inRangeFunc {l B o N : Nat} : μ l = some (B, o, N) -> j7 μ (.inRangeFunc l) (.inRangeFunc B)
 | endRangeFunc {l B o N : Nat} : μ l = some (B, o, N) -> j7 μ (.endRangeFunc l) (.endRangeFunc B)
 | beginRound : j7 μ .beginRound .beginRound
inductive fH (μ : Mu) : List bu -> List Item -> Prop
 | nil : fH μ [] []
 | cons {a : bu} {c : Item} {as_ : List bu} {cs : List Item} : j7 μ a c -> fH μ as_ cs -> fH μ (a :: as_) (c :: cs)
inductive iY (μ : Mu) (I : fu) : List jK -> List PanicEntry -> Prop
 | nil : iY μ I [] []
 | cons {v : AV} {u : Value} {r : Bool} {a : List jK} {c : List PanicEntry} : aG μ I v u -> iY μ I a c -> iY μ I ({ v, recovered := r } :: a) ({ v := u, recovered := r } :: c)
def oy (o : Oper) : Bool :=
 match o.op with
 | .alloc _ | .box .. | .buildSlice .. | .makeSlice .. | .makeMap .. => true
 | _ => false
def kI (restA : List (Nat × List Nat)) (i : Nat) : Prop := ∀ x ∈ restA, x.1 ≠ i
def eR (P : Program) (μ : Mu) (h : ah) (act : Bool) (lo hi : Nat) (ops : Array Oper) (tm : Tr AV) (o : Oper) (d : Nat) (β : Nat) : Prop :=
 match aY ops tm o with
 | some true => if oy o = true then ∃ ob, bH P β tm o = some (ob, bJ tm d) /\ μ β = none /\ h.get β = some ob /\ lo <= β /\ β < hi
   else (act = true \/ reads o = false) -> bz P h tm o = some (bJ tm d)
 | some false => bJ tm d = .tuple []
 | none => False
structure oT (P : Program) (μ : Mu) (I : fu) (h : ah) (act : Bool) (lo hi : Nat) (ops : Array Oper) (plan : List (Nat × List Nat)) (β : Nat -> Nat) (restA : List (Nat × List Nat)) (restC : List Nat) (tm : Tr AV) (tmps : Array Value) : Prop where
 ok : tw ops plan
 pre : ∃ pre, plan = pre ++ restA
 DQ : ∃ doneC, Dq ops (doneC ++ restC)
 sub : ∀ x ∈ restA, x.1 ∈ restC
 Bw : ∀ i ∈ restC, kI restA i -> ∃ o d, ops[i]? = some o /\ o.dst = some d /\ late o = true /\ d < tmps.size /\ eR P μ h act lo hi ops tm o d (β i)
 inj : ∀ i ∈ restC, ∀ j ∈ restC, kI restA i -> kI restA j -> ∀ o o', ops[i]? = some o -> ops[j]? = some o' -> oy o = true -> oy o' = true -> aY ops tm o = some true -> aY ops tm o' = some true -> β i = β j -> i = j
 DP : ∀ t v, tm.get t = some v -> (∀ i ∈ restC, kI restA i -> ∀ o, ops[i]? = some o -> o.dst ≠ some t) -> aG μ I v (tmps.getD t undef)
inductive eB (P : Program) (μ : Mu) (I : fu) (h : ah) (act : Bool) (lo hi : Nat) : List bu -> Tr AV -> List Item -> Array Value -> Prop
 | plain {todo : List bu} {tm : Tr AV} {todoc : List Item} {tmps : Array Value} : fH μ todo todoc -> h9 μ I tm tmps -> eB P μ I h act lo hi todo tm todoc tmps
 | drawn {ops : Array Oper} {plan restA : List (Nat × List Nat)} {β : Nat -> Nat} {restC : List Nat} {k : List bu} {kc : List Item} {tm : Tr AV} {tmps : Array Value} :
   fH μ k kc -> oT P μ I h act lo hi ops plan β restA restC tm tmps ->
   (act = false -> ∃ i c ra rc o, restA = (i, c) :: ra /\ restC = i :: rc /\ ops[i]? = some o /\ late o = false) -> eB P μ I h act lo hi (.cU ops restA :: k) tm (.inRegion ops restC :: kc) tmps
inductive iX (P : Program) (μ : Mu) (I : fu) (h : ah) (act : Bool) (lo hi : Nat) : qO -> List bu -> Tr AV -> Frame -> Prop
 | run {todo : List bu} {tm : Tr AV} {c : Frame} : c.mode = .run -> eB P μ I h act lo hi todo tm c.todo c.tmps -> iX P μ I h act lo hi .run todo tm c
 | ret {todo : List bu} {tm : Tr AV} {c : Frame} : c.mode = .returning -> h9 μ I tm c.tmps -> iX P μ I h act lo hi .returning todo tm c
 | tI {todo : List bu} {tm : Tr AV} {c : Frame} {a : List jK} {b : List PanicEntry} : c.mode = .panicking b -> iY μ I a b -> h9 μ I tm c.tmps -> iX P μ I h act lo hi (.panicking a) todo tm c
inductive eQ (μ : Mu) : Option Nat -> Option Nat -> Prop
 | none : eQ μ none none
 | some {l B o N : Nat} : μ l = some (B, o, N) -> eQ μ (some l) (some B)
structure eg (P : Program) (μ : Mu) (I : fu) (h : ah) (act : Bool) (lo hi : Nat) (f : ak) (c : Frame) : Prop where
 fn : c.fn = f.fn
 has : ∃ fn, P.funcs[f.fn]? = some fn
 kind : c.kind = if f.deferred = true then .deferred else .normal
 round : eQ μ f.roundOf c.roundOf
 defers : kO μ I f.defers c.defers
 size : c.tmps.size = f.nt
 st : iX P μ I h act lo hi f.mode f.todo f.tm c
inductive Stack (P : Program) (μ : Mu) (I : fu) (h : ah) : Nat -> List ak -> List Frame -> Prop
 | nil {ub : Nat} : Stack P μ I h ub [] []
 | cons {ub lo : Nat} {f : ak} {c : Frame} {fs : List ak} {cs : List Frame} : eg P μ I h false lo ub f c -> lo <= ub -> Stack P μ I h lo fs cs -> Stack P μ I h ub (f :: fs) (c :: cs)
structure oS (P : Program) (μ : Mu) (I : fu) (w0 : World) (m : bc) (c : Frame) (cs : List Frame) (w : World) : Prop where
 frame : ∃ lo, lo <= m.h.next /\ eg P μ I m.h true lo m.h.next m.fr c /\ Stack P μ I m.h lo m.callers cs
 world : bL μ I w0 m.h w
section
variable {P : Program} {μ μ' : Mu} {I : fu} [ig I] {h h' : ah} {w0 w : World}
theorem j7.mono (x : ∀ b y, μ b = some y -> μ' b = some y) {a : bu} {c : Item} (r : j7 μ a c) : j7 μ' a c := by
 cases r with
 | code c => exact .code c
 | inBlock id => exact .inBlock id
 | inLoop b => exact .inLoop b
 | inScope b => exact .inScope b
 | kP ops i => exact .kP ops i
 | inRangeFunc e => exact .inRangeFunc (x _ _ e)
 | endRangeFunc e => exact .endRangeFunc (x _ _ e)
 | beginRound => exact .beginRound
theorem fH.mono (x : ∀ b y, μ b = some y -> μ' b = some y) {a : List bu} {c : List Item} (r : fH μ a c) : fH μ' a c := by
 induction r with
 | nil => exact .nil
 | cons h _ ih => exact .cons (h.mono x) ih
theorem iY.mono (x : Ext μ μ' I I) {a : List jK} {c : List PanicEntry} (r : iY μ I a c) : iY μ' I a c := by
 induction r with
 | nil => exact .nil
 | cons h _ ih => exact .cons (h.mono x) ih
theorem iY.append {a b : List jK} {c d : List PanicEntry} (r : iY μ I a c) (q : iY μ I b d) : iY μ I (a ++ b) (c ++ d) := by
 induction r with
 | nil => exact q
 | cons h _ ih => exact .cons h ih
theorem eQ.mono (x : Ext μ μ' I I) {a b : Option Nat} (r : eQ μ a b) : eQ μ' a b := by
 cases r with
 | none => exact .none
 | some e => exact .some (x.mu _ _ e)
def dz (n : Nat) (μ μ' : Mu) (h h' : ah) : Prop := ∀ b, b < n -> μ b = none -> μ' b = none /\ h'.get b = h.get b
theorem eR.mono {hi : Nat} (k : dz hi μ μ' h h') {lo : Nat} {ops : Array Oper} {tm : Tr AV} {o : Oper} {d β : Nat} (p : eR P μ h false lo hi ops tm o d β) : eR P μ' h' false lo hi ops tm o d β := by
 unfold eR at p ⊢
 cases hw : aY ops tm o with
 | none => rw [hw] at p; exact p
 | some b =>
  rw [hw] at p
  cases b with
  | false => exact p
  | true =>
   simp only at p ⊢
   split at p
   ·rename_i hn
    obtain ⟨ob, h1, h2, h3, h4, h5⟩ := p
    obtain ⟨k1, k2⟩ := k β h5 h2
    rw [if_pos hn]
    exact ⟨ob, h1, k1, by rw [k2]; exact h3, h4, h5⟩
   ·rename_i hn
    rw [if_neg hn]
    intro hr
    have hr' : reads o = false := hr.resolve_left (by simp)
    rw [ma (h' := h) hr']
    exact p (.inr hr')
theorem oT.mono {hi : Nat} (x : Ext μ μ' I I) (k : dz hi μ μ' h h') {lo : Nat} {ops : Array Oper} {plan restA : List (Nat × List Nat)} {β : Nat -> Nat} {restC : List Nat} {tm : Tr AV} {tmps : Array Value}
  (r : oT P μ I h false lo hi ops plan β restA restC tm tmps) : oT P μ' I h' false lo hi ops plan β restA restC tm tmps :=
 ⟨r.ok, r.pre, r.DQ, r.sub, fun i hi hg => let ⟨o, d, h1, h2, h3, h5, h4⟩ := r.Bw i hi hg; ⟨o, d, h1, h2, h3, h5, h4.mono k⟩, r.inj, fun t v e hn => (r.DP t v e hn).mono x⟩
theorem eB.mono {hi : Nat} (x : Ext μ μ' I I) (k : dz hi μ μ' h h') {lo : Nat} {todo : List bu} {tm : Tr AV} {todoc : List Item} {tmps : Array Value} (r : eB P μ I h false lo hi todo tm todoc tmps) :
  eB P μ' I h' false lo hi todo tm todoc tmps := by
 cases r with
 | plain a b => exact .plain (a.mono x.mu) (b.mono x)
 | drawn a b c => exact .drawn (a.mono x.mu) (b.mono x k) c
theorem iX.mono {hi : Nat} (x : Ext μ μ' I I) (k : dz hi μ μ' h h') {lo : Nat} {m : qO} {todo : List bu} {tm : Tr AV} {c : Frame} (r : iX P μ I h false lo hi m todo tm c) : iX P μ' I h' false lo hi m todo tm c := by
 cases r with
 | run a b => exact .run a (b.mono x k)
 | ret a b => exact .ret a (b.mono x)
 | tI a b c => exact .tI a (b.mono x) (c.mono x)
theorem eg.mono {hi : Nat} (x : Ext μ μ' I I) (k : dz hi μ μ' h h') {lo : Nat} {f : ak} {c : Frame} (r : eg P μ I h false lo hi f c) : eg P μ' I h' false lo hi f c :=
 ⟨r.fn, r.has, r.kind, r.round.mono x, r.defers.mono x, r.size, r.st.mono x k⟩
theorem Stack.mono (x : Ext μ μ' I I) {ub : Nat} {fs : List ak} {cs : List Frame} (r : Stack P μ I h ub fs cs) (k : dz ub μ μ' h h') : Stack P μ' I h' ub fs cs := by
 induction r with
 | nil => exact .nil
 | cons a b _ ih => exact .cons (a.mono x k) b (ih fun c hc e => k c (Nat.lt_of_lt_of_le hc b) e)
theorem eR.wait {lo hi : Nat} {ops : Array Oper} {tm : Tr AV} {o : Oper} {d β : Nat} (p : eR P μ h true lo hi ops tm o d β) : eR P μ h false lo hi ops tm o d β := by
 unfold eR at p ⊢
 cases hw : aY ops tm o with
 | none => rw [hw] at p; exact p
 | some b =>
  rw [hw] at p
  cases b with
  | false => exact p
  | true =>
   simp only at p ⊢
   split at p
   ·rename_i hn; rw [if_pos hn]; exact p
   ·rename_i hn; rw [if_neg hn]; intro hr; exact p (Or.inl (by simp))
theorem eR.jd {act : Bool} {lo lo' hi hi' : Nat} (h1 : lo' <= lo) (h2 : hi <= hi') {ops : Array Oper} {tm : Tr AV} {o : Oper} {d β : Nat} (p : eR P μ h act lo hi ops tm o d β) : eR P μ h act lo' hi' ops tm o d β := by
 unfold eR at p ⊢
 cases hw : aY ops tm o with
 | none => rw [hw] at p; exact p
 | some b =>
  rw [hw] at p
  cases b with
  | false => exact p
  | true =>
   simp only at p ⊢
   split at p
   ·rename_i hn; rw [if_pos hn]
    obtain ⟨ob, a1, a2, a3, a4, a5⟩ := p
    exact ⟨ob, a1, a2, a3, by omega, by omega⟩
   ·rename_i hn; rw [if_neg hn]; exact p
theorem oT.jd {act : Bool} {lo lo' hi hi' : Nat} (h1 : lo' <= lo) (h2 : hi <= hi') {ops : Array Oper} {plan restA : List (Nat × List Nat)} {β : Nat -> Nat} {restC : List Nat} {tm : Tr AV} {tmps : Array Value}
  (r : oT P μ I h act lo hi ops plan β restA restC tm tmps) : oT P μ I h act lo' hi' ops plan β restA restC tm tmps :=
 ⟨r.ok, r.pre, r.DQ, r.sub, fun i hi hg => let ⟨o, d, a1, a2, a3, a5, a4⟩ := r.Bw i hi hg; ⟨o, d, a1, a2, a3, a5, a4.jd h1 h2⟩, r.inj, r.DP⟩
theorem eB.jd {act : Bool} {lo lo' hi hi' : Nat} (h1 : lo' <= lo) (h2 : hi <= hi') {todo : List bu} {tm : Tr AV} {todoc : List Item} {tmps : Array Value} (r : eB P μ I h act lo hi todo tm todoc tmps) :
  eB P μ I h act lo' hi' todo tm todoc tmps := by
 cases r with
 | plain a b => exact .plain a b
 | drawn a b c => exact .drawn a (b.jd h1 h2) c
theorem iX.jd {act : Bool} {lo lo' hi hi' : Nat} (h1 : lo' <= lo) (h2 : hi <= hi') {m : qO} {todo : List bu} {tm : Tr AV} {c : Frame} (r : iX P μ I h act lo hi m todo tm c) : iX P μ I h act lo' hi' m todo tm c := by
 cases r with
 | run a b => exact .run a (b.jd h1 h2)
 | ret a b => exact .ret a b
 | tI a b c => exact .tI a b c
theorem eg.jd {act : Bool} {lo lo' hi hi' : Nat} (h1 : lo' <= lo) (h2 : hi <= hi') {f : ak} {c : Frame} (r : eg P μ I h act lo hi f c) : eg P μ I h act lo' hi' f c :=
 ⟨r.fn, r.has, r.kind, r.round, r.defers, r.size, r.st.jd h1 h2⟩
theorem h9.set {tm : Tr AV} {tmps : Array Value} (r : h9 μ I tm tmps) {d : Nat} {v : AV} {u : Value} (hd : d < tmps.size) (q : aG μ I v u) : h9 μ I (tm.set d v) (tmps.setIfInBounds d u) := by
 intro t x e
 rw [Tr.aP] at e
 split at e
 ·rename_i ht; subst ht; cases e
  simpa [Array.getD_eq_getD_getElem?, hd] using q
 ·rename_i ht
  have := r t x e
  rw [Array.getD_eq_getD_getElem?] at this ⊢
  rw [Array.getElem?_setIfInBounds_ne (Ne.symm ht)]
  exact this
theorem iT {tm : Tr AV} {tmps : Array Value} {x : Operand} {ds : List Deferred} (hx : ∀ t, x = .tmp t -> ∀ v, tm.get t = some v -> aG μ I v (tmps.getD t undef)) : aG μ I (evalOp tm x) (Act.eval { tmps, defers := ds } x) := by
 cases x with
 | tmp t =>
  simp only [evalOp, bJ, Act.eval]
  cases e : tm.get t with
  | none => exact .bad _
  | some v => exact hx t rfl v e
 | const v => exact gM v
 | global g => exact ig.ok μ g
 | func f => exact .func (by simp; exact .nil) (by simp; exact .nil)
theorem ke {nt : Nat} {tm tm' : Tr AV} {d : Option Tmp} {v : AV} (e : jg nt tm d v = some tm') : (d = none /\ tm' = tm) \/ ∃ t, d = some t /\ t < nt /\ tm' = tm.set t v := by
 cases d with
 | none => simp [jg] at e; exact .inl ⟨rfl, e.symm⟩
 | some t =>
  simp only [jg] at e
  obtain ⟨h1, e⟩ := aJ e
  simp at e
  exact .inr ⟨t, rfl, jI h1, e.symm⟩
theorem l6 {ops : Array Oper} {tm : Tr AV} {tmps : Array Value} {o : Oper} {b : Bool} (e : aY ops tm o = some b) (hx : ∀ t ∈ jY ops o, ∀ v, tm.get t = some v -> aG μ I v (tmps.getD t undef)) :
  Region.wanted o (yielded ops tmps) = b := by
 unfold aY at e
 unfold Region.wanted
 cases hg : o.guard with
 | none => rw [hg] at e; simp at e; simp [e]
 | some jw =>
  obtain ⟨j, want⟩ := jw
  rw [hg] at e
  simp only at e ⊢
  cases hj : ops[j]? with
  | none => rw [hj] at e; cases e
  | some g =>
   rw [hj] at e
   simp only at e
   cases hd : g.dst with
   | none => rw [hd] at e; cases e
   | some d =>
    rw [hd] at e
    simp only at e
    have hmem : d ∈ jY ops o := by simp [jY, hg, hj, hd]
    have hx := hx d hmem
    simp only [bJ] at e
    unfold yielded
    simp only [hj, hd, Option.bind_some]
    cases hv : tm.get d with
    | none => rw [hv] at e; simp at e
    | some v =>
     rw [hv] at e
     have hr := hx v hv
     rw [Array.getD_eq_getD_getElem?] at hr
     cases v <;> simp only at e <;> first | (cases e; done) | skip
     case bool q =>
      cases hq : tmps[d]? with
      | none => rw [hq] at hr; simp [undef] at hr; cases hr
      | some u =>
       rw [hq] at hr
       simp at hr e
       cases hr
       subst e
       cases q <;> cases want <;> rfl
     case tuple l =>
      cases l with
      | cons _ _ => cases e
      | nil =>
       simp at e
       subst e
       cases hq : tmps[d]? with
       | none => simp
       | some u =>
        rw [hq] at hr
        simp at hr
        cases hr
        simp
end
end Go.a9
namespace Go.a9
open Go.RowKit (Below)
set_option linter.unusedSectionVars false
section
variable {P : Program} {μ μ' : Mu} {I : fu} [ig I] {h h' : ah} {w0 w : World}
theorem tw.CM {ops : Array Oper} {plan : List (Nat × List Nat)} (k : tw ops plan) : Dq ops (plan.map (·.1)) := by
 refine ⟨k.nodup, k.lt, fun a i b e o ho p hp => ?_⟩
 have : ∃ pre c post, plan = pre ++ (i, c) :: post /\ pre.map (·.1) = a := by
  obtain ⟨l1, l2, h1, h2, h3⟩ := List.map_eq_append_iff.1 e
  obtain ⟨x, l3, h4, h5, h6⟩ := List.map_eq_cons_iff.1 h3
  obtain ⟨x1, x2⟩ := x
  simp at h5
  subst h5
  exact ⟨l1, x2, l3, by rw [h1, h4], h2⟩
 obtain ⟨pre, c, post, h1, h2⟩ := this
 rw [<- h2]
 exact (k.ord pre i c post h1 o ho).1 p hp
theorem zn {tm : Tr AV} {o : Oper} {v : AV} (e : bz P h tm o = some v) : oy o = false := by
 obtain ⟨dst, op, type, pos, after, guard⟩ := o
 cases op <;> first | rfl | (simp [bz] at e; done)
theorem zr {b : Nat} {tm : Tr AV} {o : Oper} {x : fO × AV} (e : bH P b tm o = some x) : oy o = true := by
 obtain ⟨dst, op, type, pos, after, guard⟩ := o
 cases op <;> first | rfl | (simp [bH] at e; done)
theorem gQ {ops : Array Oper} {tm tm' : Tr AV} {o : Oper} (e : ∀ t ∈ jY ops o, bJ tm' t = bJ tm t) : aY ops tm' o = aY ops tm o := by
 unfold aY
 cases hg : o.guard with
 | none => rfl
 | some jw =>
  obtain ⟨j, want⟩ := jw
  simp only
  cases hj : ops[j]? with
  | none => rfl
  | some g =>
   simp only
   cases hd : g.dst with
   | none => rfl
   | some d =>
    simp only
    rw [e d (by simp [jY, hg, hj, hd])]
theorem nc {l : List Operand} {t : Nat} (h : Operand.tmp t ∈ l) : t ∈ tmpsOf l := by
 unfold tmpsOf
 rw [List.mem_filterMap]
 exact ⟨_, h, rfl⟩
theorem eval_congr {ops : Array Oper} {tm tm' : Tr AV} {o : Oper} (e : ∀ t ∈ looks ops o, bJ tm' t = bJ tm t) : ∀ x ∈ o.op.operands.toList, evalOp tm' x = evalOp tm x := by
 intro x hx
 cases x with
 | tmp t => exact e t (by simp [looks]; left; exact nc hx)
 | _ => rfl
theorem eR.congr {act : Bool} {lo hi : Nat} {ops : Array Oper} {tm tm' : Tr AV} {o : Oper} {d β : Nat} (e : ∀ t ∈ looks ops o, bJ tm' t = bJ tm t) (ed : bJ tm' d = bJ tm d)
  (p : eR P μ h act lo hi ops tm o d β) : eR P μ h act lo hi ops tm' o d β := by
 unfold eR at p ⊢
 rw [gQ (tm := tm) (fun t ht => e t (by simp [looks, ht]))]
 have ee := eval_congr e
 cases hw : aY ops tm o with
 | none => rw [hw] at p; exact p
 | some b =>
  rw [hw] at p
  cases b with
  | false => simp only at p ⊢; rw [ed]; exact p
  | true =>
   simp only at p ⊢
   rw [ed, oN ee, oO (tm := tm') (tm' := tm) ee]
   exact p
theorem th {ops : Array Oper} {tm : Tr AV} : ∀ {l : List Nat}, again P h tm ops l = true -> ∀ k ∈ l, ∀ o d, ops[k]? = some o -> o.dst = some d -> aY ops tm o = some true -> bz P h tm o = some (bJ tm d)
 | [], _, k, hk, _, _, _, _, _ => by cases hk
 | i :: l, e, k, hk, o, d, ho, hd, hw => by
  unfold again at e
  cases hi : ops[i]? with
  | none => rw [hi] at e; cases e
  | some o' =>
   rw [hi] at e
   simp only at e
   cases hd' : o'.dst with
   | none => rw [hd'] at e; cases e
   | some d' =>
    rw [hd'] at e
    simp only at e
    rcases List.mem_cons.1 hk with rfl | hk
    ·rw [ho] at hi; cases hi
     rw [hd] at hd'; cases hd'
     rw [hw] at e
     simp only at e
     cases ha : bz P h tm o with
     | none => rw [ha] at e; cases e
     | some v =>
      rw [ha] at e
      simp only [Bool.and_eq_true] at e
      rw [AV.beq_eq _ e.1]
    ·have : again P h tm ops l = true := by
      cases hw' : aY ops tm o' with
      | none => rw [hw'] at e; cases e
      | some b =>
       rw [hw'] at e
       cases b with
       | false => exact e
       | true =>
        simp only at e
        cases ha : bz P h tm o' with
        | none => rw [ha] at e; cases e
        | some v => rw [ha] at e; simp only [Bool.and_eq_true] at e; exact e.2
     exact th this k hk o d ho hd hw
theorem drop_cons {α : Type} {l : List α} {i : Nat} {x : α} {r : List α} (e : l.drop i = x :: r) : l[i]? = some x /\ l.drop (i + 1) = r /\ i < l.length := by
 have h0 : l[i]? = some x := by
  have : (l.drop i)[0]? = some x := by rw [e]; rfl
  simpa using this
 refine ⟨h0, ?_, (List.getElem?_eq_some_iff.1 h0).1⟩
 have : l.drop (i + 1) = (l.drop i).drop 1 := by simp
 rw [this, e]; rfl
theorem range'_step {i n : Nat} (h : i < n) : List.range' i (n - i) = i :: List.range' (i + 1) (n - (i + 1)) := by
 have : n - i = (n - (i + 1)) + 1 := by omega
 rw [this, List.range'_succ]
theorem nC {ops : Array Oper} {plan : List (Nat × List Nat)} (ok : tw ops plan) {pre : List (Nat × List Nat)} {i : Nat} {c : List Nat} {rest : List (Nat × List Nat)} (hp : plan = pre ++ (i, c) :: rest)
  {k : Nat} (hk : k < ops.size) (hne : k ≠ i) (hg : kI rest k) : k ∈ pre.map (·.1) /\ ¬ tB ops i k := by
 have hmem := ok.all k hk
 have hk1 : k ∈ pre.map (·.1) := by
  rw [hp] at hmem
  simp only [List.map_append, List.map_cons, List.mem_append, List.mem_cons] at hmem
  rcases hmem with q | q | q
  ·exact q
  ·exact absurd q hne
  ·obtain ⟨x, hx, rfl⟩ := List.mem_map.1 q
   exact absurd rfl (hg x hx)
 refine ⟨hk1, fun hc => ?_⟩
 obtain ⟨a, b, hab⟩ := List.append_of_mem hk1
 refine ok.CM.mz (a := a) (b := b ++ i :: rest.map (·.1)) (i := k) (j := i) ?_ (by simp) hc
 rw [hp]
 simp only [List.map_append, List.map_cons, hab]
 simp
theorem pJ (c : Frame) (u : Value) : (c.finish u).fn = c.fn := by unfold Frame.finish; split <;> rfl
theorem lM (c : Frame) (u : Value) : (c.finish u).kind = c.kind := by unfold Frame.finish; split <;> rfl
theorem kC (c : Frame) (u : Value) : (c.finish u).roundOf = c.roundOf := by unfold Frame.finish; split <;> rfl
theorem kB {lo hi : Nat} {f f' : ak} {c : Frame} {v : AV} {u : Value} (e : bF P h f v = some f') (hm : f.mode = .run) (r : eg P μ I h false lo hi f c) (q : aG μ I v u) :
  eg P μ I h true lo hi f' (c.finish u) := by
 obtain ⟨r1, r2, r3, r4, r5, r6, r7⟩ := r
 obtain ⟨fn, nt, tm, todo, defers, mode, deferred, roundOf⟩ := f
 simp only at hm r1 r2 r3 r4 r5 r6 r7
 subst hm
 cases r7 with
 | run hmode ht =>
 unfold bF at e
 simp only at e
 split at e
 ·-- a region in the order of the text
  rename_i ops i o rest k
  cases hs : jg nt tm o.dst v with
  | none => rw [hs] at e; cases e
  | some tm' =>
   rw [hs] at e
   simp at e
   subst e
   generalize hct : c.todo = ct at ht
   generalize htm : c.tmps = tmps at ht r6
   cases ht with
   | plain hi ht =>
    cases hi with
    | cons h1 h2 =>
     rename_i item kc
     generalize hrest : o :: rest = ors at h1
     cases h1 with
     | kP =>
      obtain ⟨d1, d2, d3⟩ := drop_cons hrest.symm
      have d3' : i < ops.size := by simpa using d3
      have d1' : ops[i]? = some o := by simpa using d1
      rw [range'_step d3'] at hct
      refine ⟨(pJ c u).trans r1, r2, (lM c u).trans r3, by rw [kC]; exact r4, ?_, ?_, ?_⟩
      ·simp [Frame.finish, hct, d1', r5]
      ·simp only [Frame.finish, hct, d1', Option.bind_some]
       cases o.dst <;> simp [htm, r6]
      ·refine .run (by simp [Frame.finish, hct, hmode]) (.plain ?_ ?_)
       ·simp only [Frame.finish, hct]
        rw [<- d2]
        exact .cons (.kP ops (i + 1)) h2
       ·simp only [Frame.finish, hct, d1', Option.bind_some]
        rcases ke hs with ⟨z, rfl⟩ | ⟨t, z, hlt, rfl⟩
        ·rw [z]; rw [<- htm] at ht; exact ht
        ·rw [z, htm]; exact ht.set (by rw [r6]; exact hlt) q
 ·-- a region that draws its order
  rename_i ops i chk rest k
  cases ho : ops[i]? with
  | none => rw [ho] at e; cases e
  | some o =>
   rw [ho] at e
   simp only at e
   cases hs : jg nt tm o.dst v with
   | none => rw [hs] at e; cases e
   | some tm' =>
    rw [hs] at e
    simp only at e
    obtain ⟨hag, e⟩ := aJ e
    simp at e
    subst e
    generalize hct : c.todo = ct at ht
    generalize htm : c.tmps = tmps at ht r6
    cases ht with
    | plain hi ht => cases hi with | cons h1 h2 => cases h1
    | drawn hk hd hal =>
     rename_i plan β restC kc
     obtain ⟨i', c', ra, rc, o', q1, q2, q3, q4⟩ := hal rfl
     cases q1
     subst q2
     rw [ho] at q3
     cases q3
     obtain ⟨ok, ⟨pre, hpre⟩, ⟨doneC, hlin⟩, hsub, hpend, hinj, htms⟩ := hd
     have hord := ok.ord pre i chk rest hpre o ho
     obtain ⟨_, _, o3⟩ := hord
     obtain ⟨o4, o5, o6⟩ := o3 q4
     have hnd : ∀ k ∈ rc, k ≠ i := by
      intro k hk hki
      subst hki
      have := hlin.nodup
      rw [List.nodup_append] at this
      exact (List.nodup_cons.1 this.2.1).1 hk
     have hgone : ∀ k ∈ rc, kI rest k -> kI ((i, chk) :: rest) k := by
      intro k hk hg x hx
      rcases List.mem_cons.1 hx with rfl | hx
      ·exact fun q => hnd k hk q.symm
      ·exact hg x hx
     have hlt : ∀ k ∈ rc, k < ops.size := fun k hk => hlin.lt k (by simp [hk])
     -- what a pending operation names is not written
     have hapart : ∀ k ∈ rc, kI rest k -> ∀ o', ops[k]? = some o' -> late o' = true -> ∀ t ∈ names ops o', bJ tm' t = bJ tm t := by
      intro k hk hg o' ho' hl t ht
      rcases ke hs with ⟨_, rfl⟩ | ⟨d, hd, _, rfl⟩
      ·rfl
      ·rw [ml]
       have : t ≠ d := by
        intro z
        subst z
        rcases o6 t hd k o' ho' hl ht with y | y
        ·exact (nC ok hpre (hlt k hk) (hnd k hk) hg).2 y
        ·exact hlin.mz rfl hk y
       rw [if_neg this]
     have hdst : ∀ {o' : Oper} {d : Nat}, o'.dst = some d -> d ∈ names ops o' := by
      intro o' d hd; simp [names, hd]
     have hlk : ∀ {o' : Oper} {t : Nat}, t ∈ looks ops o' -> t ∈ names ops o' := by
      intro o' t ht; simp [names, ht]
     have haw : ∀ k ∈ rc, kI rest k -> ∀ o', ops[k]? = some o' -> late o' = true -> aY ops tm' o' = aY ops tm o' := by
      intro k hk hg o' ho' hl
      exact gQ fun t ht => hapart k hk hg o' ho' hl t (hlk (by simp [looks, ht]))
     have hsz : (c.finish u).tmps.size = c.tmps.size := by
      simp only [Frame.finish, hct, ho, Option.bind_some]
      cases o.dst <;> simp
     have hD : oT P μ I h true lo hi ops plan β rest rc tm' (c.finish u).tmps := by
      refine ⟨ok, ⟨pre ++ [(i, chk)], by rw [hpre]; simp⟩, ⟨doneC ++ [i], by simpa using hlin⟩, ?_, ?_, ?_, ?_⟩
      ·intro x hx
       have h1 := hsub x (List.mem_cons_of_mem _ hx)
       rcases List.mem_cons.1 h1 with h1 | h1
       ·have hn := ok.nodup
        rw [hpre] at hn
        simp only [List.map_append, List.map_cons] at hn
        rw [List.nodup_append] at hn
        exact absurd (List.mem_map.2 ⟨x, hx, h1⟩) (List.nodup_cons.1 hn.2.1).1
       ·exact h1
      ·intro k hk hg
       obtain ⟨o', d, p1, p2, p3, p4, p5⟩ := hpend k (List.mem_cons_of_mem _ hk) (hgone k hk hg)
       refine ⟨o', d, p1, p2, p3, by rw [hsz, htm]; exact p4, ?_⟩
       have hap := hapart k hk hg o' p1 p3
       have p6 : eR P μ h false lo hi ops tm' o' d (β k) := p5.congr (fun t ht => hap t (hlk ht)) (hap d (hdst p2))
       unfold eR at p6 ⊢
       cases hw : aY ops tm' o' with
       | none => rw [hw] at p6; exact p6
       | some b =>
        rw [hw] at p6
        cases b with
        | false => exact p6
        | true =>
         simp only at p6 ⊢
         split at p6
         ·rename_i hn; rw [if_pos hn]; exact p6
         ·rename_i hn
          rw [if_neg hn]
          intro _
          cases hr : reads o' with
          | false => exact p6 (.inr hr)
          | true =>
           obtain ⟨z1, z2⟩ := nC ok hpre (hlt k hk) (hnd k hk) hg
           rcases o5 k z1 o' p1 p3 hr with y | y
           ·exact absurd y (hlin.mz rfl hk)
           ·exact th hag k y o' d p1 p2 hw
      ·intro k1 hk1 k2 hk2 g1 g2 o1 o2 e1 e2 n1 n2 a1 a2 hb
       have l1 : late o1 = true := by
        obtain ⟨_, _, p1, _, p3, _⟩ := hpend k1 (List.mem_cons_of_mem _ hk1) (hgone k1 hk1 g1); rw [e1] at p1; cases p1; exact p3
       have l2 : late o2 = true := by
        obtain ⟨_, _, p1, _, p3, _⟩ := hpend k2 (List.mem_cons_of_mem _ hk2) (hgone k2 hk2 g2); rw [e2] at p1; cases p1; exact p3
       rw [haw k1 hk1 g1 o1 e1 l1] at a1
       rw [haw k2 hk2 g2 o2 e2 l2] at a2
       exact hinj k1 (List.mem_cons_of_mem _ hk1) k2 (List.mem_cons_of_mem _ hk2) (hgone _ hk1 g1) (hgone _ hk2 g2) o1 o2 e1 e2 n1 n2 a1 a2 hb
      ·intro t x ht hno
       simp only [Frame.finish, hct, ho, Option.bind_some]
       have old : tm.get t = some x -> aG μ I x (tmps.getD t undef) := fun hx => htms t x hx fun k hk hg o' ho' => by
        rcases List.mem_cons.1 hk with rfl | hk
        ·exact absurd rfl (hg _ (List.mem_cons_self))
        ·exact hno k hk (fun x hx => hg x (List.mem_cons_of_mem _ hx)) o' ho'
       rcases ke hs with ⟨z, rfl⟩ | ⟨d, z, hlt', rfl⟩
       ·rw [z, htm]; exact old ht
       ·rw [z, htm]
        rw [Tr.aP] at ht
        split at ht
        ·rename_i y; subst y; cases ht
         have : t < tmps.size := by rw [r6]; exact hlt'
         simpa [Array.getD_eq_getD_getElem?, this] using q
        ·rename_i y
         have := old ht
         rw [Array.getD_eq_getD_getElem?] at this ⊢
         rw [Array.getElem?_setIfInBounds_ne (Ne.symm y)]
         exact this
     refine ⟨(pJ c u).trans r1, r2, (lM c u).trans r3, by rw [kC]; exact r4, ?_, ?_, ?_⟩
     ·simp [Frame.finish, hct, ho, r5]
     ·rw [hsz, htm]; exact r6
     ·refine .run (by simp [Frame.finish, hct, hmode]) ?_
      have : (c.finish u).todo = .inRegion ops rc :: kc := by simp [Frame.finish, hct]
      rw [this]
      exact .drawn hk hD (by simp)
 ·-- the end of a loop over a function
  rename_i l k
  simp at e
  subst e
  generalize hct : c.todo = ct at ht
  generalize htm : c.tmps = tmps at ht r6
  cases ht with
  | plain hi ht =>
   cases hi with
   | cons h1 h2 =>
    cases h1 with
    | inRangeFunc hl =>
     refine ⟨(pJ c u).trans r1, r2, (lM c u).trans r3, by rw [kC]; exact r4, ?_, ?_, ?_⟩
     ·simp [Frame.finish, hct, r5]
     ·simp [Frame.finish, hct, htm, r6]
     ·refine .run (by simp [Frame.finish, hct, hmode]) (.plain ?_ ?_)
      ·simp only [Frame.finish, hct]
       exact .cons (.endRangeFunc hl) h2
      ·simp only [Frame.finish, hct, htm]
       exact ht
 ·cases e
end
end Go.a9
namespace Go.a9
open Go.RowKit (Below)
set_option linter.unusedSectionVars false
section
variable {P : Program} {μ μ' : Mu} {I : fu} [ig I] {h h' : ah} {w0 w : World}
theorem Sub.new (W : bL μ I w0 h w) (ob : fO) : Sub h (h.new ob) := by
 intro b o e
 have := W.live _ _ e
 rw [ah.aQ, if_neg (by omega)]
 exact e
theorem AG (W : bL μ I w0 h w) {lo : Nat} (hlo : lo <= h.next) {ops : Array Oper} {plan : List (Nat × List Nat)} {β : Nat -> Nat} {i : Nat} {chk : List Nat} {rest : List (Nat × List Nat)} {restC : List Nat} {tm tm' : Tr AV} {tmps : Array Value}
  (r : oT P μ I h true lo h.next ops plan β ((i, chk) :: rest) restC tm tmps) {o : Oper} (ho : ops[i]? = some o) (hl : late o = true) {v : AV} (hs : jg tmps.size tm o.dst v = some tm') {h' : ah}
  (hv : (aY ops tm o = some true /\ bz P h tm o = some v /\ h' = h) \/ (aY ops tm o = some true /\ ∃ ob, bH P h.next tm o = some (ob, v) /\ h' = h.new ob) \/ (aY ops tm o = some false /\ v = .tuple [] /\ h' = h)) :
  oT P μ I h' true lo h'.next ops plan (fun k => if k = i then h.next else β k) rest restC tm' tmps := by
 obtain ⟨ok, ⟨pre, hpre⟩, hlin, hsub, hpend, hinj, htms⟩ := r
 have hord := ok.ord pre i chk rest hpre o ho
 obtain ⟨_, o2, _⟩ := hord
 obtain ⟨d, hd, kQ, hdn⟩ := o2 hl
 have hiC : i ∈ restC := hsub (i, chk) (List.mem_cons_self)
 obtain ⟨doneC, hlinC⟩ := hlin
 have hlt : ∀ k ∈ restC, k < ops.size := fun k hk => hlinC.lt k (by simp [hk])
 obtain ⟨hdlt, rfl⟩ : d < tmps.size /\ tm' = tm.set d v := by
  rcases ke hs with ⟨z, _⟩ | ⟨t, z, hlt, rfl⟩
  ·rw [hd] at z; cases z
  ·rw [hd] at z; cases z; exact ⟨hlt, rfl⟩
 -- the heap only grows
 have hnext : h.next <= h'.next := by
  rcases hv with ⟨_, _, rfl⟩ | ⟨_, ob, _, rfl⟩ | ⟨_, _, rfl⟩
  ·exact Nat.le_refl _
  ·exact Nat.le_succ _
  ·exact Nat.le_refl _
 have hSub : Sub h h' := by
  rcases hv with ⟨_, _, rfl⟩ | ⟨_, ob, _, rfl⟩ | ⟨_, _, rfl⟩
  ·exact fun _ _ e => e
  ·exact Sub.new W ob
  ·exact fun _ _ e => e
 have hold : ∀ k ∈ restC, k ≠ i -> kI rest k -> kI ((i, chk) :: rest) k := by
  intro k hk hki hg x hx
  rcases List.mem_cons.1 hx with rfl | hx
  ·exact Ne.symm hki
  ·exact hg x hx
 have hap : ∀ k ∈ restC, k ≠ i -> kI rest k -> ∀ o', ops[k]? = some o' -> ∀ t ∈ names ops o', bJ (tm.set d v) t = bJ tm t := by
  intro k hk hki hg o' ho' t ht
  rw [ml]
  have : t ≠ d := fun z => by
   subst z
   exact (nC ok hpre (hlt k hk) hki hg).2 (hdn k o' ho' hki ht)
  rw [if_neg this]
 have hlk : ∀ {o' : Oper} {t : Nat}, t ∈ looks ops o' -> t ∈ names ops o' := by intro o' t ht; simp [names, ht]
 have hdst : ∀ {o' : Oper} {e : Nat}, o'.dst = some e -> e ∈ names ops o' := by intro o' e he; simp [names, he]
 -- the operation itself does not look at what it writes
 have hself : ∀ t ∈ looks ops o, bJ (tm.set d v) t = bJ tm t := by
  intro t ht
  rw [ml, if_neg (fun z => by subst z; exact kQ ht)]
 have hselfd : bJ (tm.set d v) d = v := by rw [ml, if_pos rfl]
 have hselfw : aY ops (tm.set d v) o = aY ops tm o := gQ fun t ht => hself t (by simp [looks, ht])
 have haw : ∀ k ∈ restC, k ≠ i -> kI rest k -> ∀ o', ops[k]? = some o' -> aY ops (tm.set d v) o' = aY ops tm o' := by
  intro k hk hki hg o' ho'
  exact gQ fun t ht => hap k hk hki hg o' ho' t (hlk (by simp [looks, ht]))
 have hβlt : ∀ k ∈ restC, k ≠ i -> kI rest k -> ∀ o', ops[k]? = some o' -> oy o' = true -> aY ops tm o' = some true -> β k < h.next := by
  intro k hk hki hg o' ho' hn hw
  obtain ⟨o2, d2, p1, p2, p3, p4, p5⟩ := hpend k hk (hold k hk hki hg)
  rw [ho'] at p1; cases p1
  unfold eR at p5
  rw [hw] at p5
  simp only [hn, if_true] at p5
  obtain ⟨ob, _, _, _, _, z⟩ := p5
  exact z
 refine ⟨ok, ⟨pre ++ [(i, chk)], by rw [hpre]; simp⟩, ⟨doneC, hlinC⟩, fun x hx => hsub x (List.mem_cons_of_mem _ hx), ?_, ?_, ?_⟩
 ·intro k hk hg
  by_cases hki : k = i
  ·subst hki
   refine ⟨o, d, ho, hd, hl, hdlt, ?_⟩
   unfold eR
   rw [hselfw, hselfd, if_pos rfl]
   rcases hv with ⟨h1, h2, rfl⟩ | ⟨h1, ob, h2, rfl⟩ | ⟨h1, rfl, rfl⟩
   ·rw [h1]
    simp only
    rw [if_neg (by rw [zn h2]; simp)]
    intro _
    rw [oN (eval_congr hself), h2]
   ·rw [h1]
    simp only
    rw [if_pos (zr h2)]
    refine ⟨ob, by rw [oO (eval_congr hself), h2], W.fg, by rw [ah.aQ, if_pos rfl], hlo, Nat.lt_succ_self _⟩
   ·rw [h1]
  ·obtain ⟨o', d', p1, p2, p3, p4, p5⟩ := hpend k hk (hold k hk hki hg)
   refine ⟨o', d', p1, p2, p3, p4, ?_⟩
   rw [if_neg hki]
   have hap' := hap k hk hki hg o' p1
   have p6 := eR.congr (fun t ht => hap' t (hlk ht)) (hap' d' (hdst p2)) p5
   unfold eR at p6 ⊢
   cases hw : aY ops (tm.set d v) o' with
   | none => rw [hw] at p6; exact p6
   | some b =>
    rw [hw] at p6
    cases b with
    | false => exact p6
    | true =>
     simp only at p6 ⊢
     split at p6
     ·rename_i hn
      rw [if_pos hn]
      obtain ⟨ob, z1, z2, z3, z4, z5⟩ := p6
      exact ⟨ob, z1, z2, hSub _ _ z3, z4, Nat.lt_of_lt_of_le z5 hnext⟩
     ·rename_i hn
      rw [if_neg hn]
      intro hr
      exact zm hSub (p6 hr)
 ·intro k1 hk1 k2 hk2 g1 g2 o1 o2 e1 e2 n1 n2 a1 a2 hb
  by_cases h1 : k1 = i
  ·by_cases h2 : k2 = i
   ·rw [h1, h2]
   ·simp only [h1, if_true, if_neg h2] at hb
    rw [haw k2 hk2 h2 g2 o2 e2] at a2
    have := hβlt k2 hk2 h2 g2 o2 e2 n2 a2
    omega
  ·rw [haw k1 hk1 h1 g1 o1 e1] at a1
   by_cases h2 : k2 = i
   ·simp only [h2, if_true, if_neg h1] at hb
    have := hβlt k1 hk1 h1 g1 o1 e1 n1 a1
    omega
   ·rw [haw k2 hk2 h2 g2 o2 e2] at a2
    simp only [if_neg h1, if_neg h2] at hb
    exact hinj k1 hk1 k2 hk2 (hold _ hk1 h1 g1) (hold _ hk2 h2 g2) o1 o2 e1 e2 n1 n2 a1 a2 hb
 ·intro t x ht hno
  have htd : t ≠ d := by
   intro z
   subst z
   have hg : kI rest i := by
    intro x hx hxi
    have hn := ok.nodup
    rw [hpre] at hn
    simp only [List.map_append, List.map_cons] at hn
    rw [List.nodup_append] at hn
    exact (List.nodup_cons.1 hn.2.1).1 (List.mem_map.2 ⟨x, hx, hxi⟩)
   exact hno i hiC hg o ho hd
  rw [Tr.aP, if_neg htd] at ht
  refine htms t x ht fun k hk hg o' ho' => ?_
  by_cases hki : k = i
  ·exact absurd rfl (hki ▸ hg (i, chk) (List.mem_cons_self))
  ·exact hno k hk (fun x hx => hg x (List.mem_cons_of_mem _ hx)) o' ho'
theorem jk {b : Frame} {a : Act} {k : List Item} {cs : List Frame} {w w' : World} {ops : Array Oper} {i : Nat} {rest : List Nat} {o : Oper} {v : Value} (ho : ops[i]? = some o) (hw : Region.wanted o (yielded ops a.tmps) = true)
  (hr : (o.semAt b.roundOf a.eval).run P w = .ok (.value v) w') : step P (lone (b.atR a (.inRegion ops (i :: rest) :: k)) cs w) = .next (lone ((b.atR a (.inRegion ops (i :: rest) :: k)).finish v) cs w') := by
 refine step_lone_go ?_
 rw [stepGR_op ho hw]
 simp [stepG.apply, hr]
theorem finish_atR' (b : Frame) (a : Act) (ops : Array Oper) (i : Nat) (rest : List Nat) (k : List Item) (v : Value) {o : Oper} (ho : ops[i]? = some o) {d : Nat} (hd : o.dst = some d) :
  (b.atR a (.inRegion ops (i :: rest) :: k)).finish v = b.atR ⟨a.tmps.setIfInBounds d v, a.defers⟩ (.inRegion ops rest :: k) := by
 rw [Frame.finish_atR, ho, Option.bind_some, hd]; rfl
theorem D9 {lo hi : Nat} {ops : Array Oper} {plan restA : List (Nat × List Nat)} {β : Nat -> Nat} {tm : Tr AV} : ∀ (a c : List Nat) (μ : Mu) (w : World) (tmps : Array Value),
  oT P μ I h true lo hi ops plan β restA (a ++ c) tm tmps -> (∀ i ∈ a, kI restA i) -> bL μ I w0 h w ->
  ∃ μ' tmps' w', Ext μ μ' I I /\ dz lo μ μ' h h /\ bL μ' I w0 h w' /\ tmps'.size = tmps.size /\ oT P μ' I h true lo hi ops plan β restA c tm tmps' /\
   ∀ (b : Frame) (ds : List Deferred) (k : List Item) (cs : List Frame), Steps P (lone (b.atR ⟨tmps, ds⟩ (.inRegion ops (a ++ c) :: k)) cs w) (lone (b.atR ⟨tmps', ds⟩ (.inRegion ops c :: k)) cs w') := by
 intro a
 induction a with
 | nil => intro c μ w tmps r _ W; exact ⟨μ, tmps, w, .refl _ _, fun _ _ e => ⟨e, rfl⟩, W, rfl, r, fun _ _ _ _ => Steps.refl _ _⟩
 | cons i a ih =>
  intro c μ w tmps r hg W
  rw [List.cons_append] at r
  obtain ⟨ok, hpre, ⟨doneC, hlin⟩, hsub, hpend, hinj, htms⟩ := r
  have hgi := hg i (List.mem_cons_self)
  obtain ⟨o, d, ho, hd, hl, hdlt, hp⟩ := hpend i (List.mem_cons_self) hgi
  have hi_lt : i < ops.size := hlin.lt i (by simp)
  -- where i stands in the plan
  have hplan : ∃ p c' q, plan = p ++ (i, c') :: q := by
   obtain ⟨x, hx, hxi⟩ := List.mem_map.1 (ok.all i hi_lt)
   obtain ⟨x1, x2⟩ := x
   simp at hxi
   subst hxi
   obtain ⟨p, q, e⟩ := List.append_of_mem hx
   exact ⟨p, x2, q, e⟩
  have hnoti : ∀ k ∈ a ++ c, k ≠ i := by
   intro k hk hki
   subst hki
   have := hlin.nodup
   rw [List.nodup_append] at this
   exact (List.nodup_cons.1 this.2.1).1 hk
  -- what it looks at is there
  have hlook : ∀ t ∈ looks ops o, ∀ v, tm.get t = some v -> aG μ I v (tmps.getD t undef) := by
   intro t ht v hv
   refine htms t v hv fun k hk hgk o' ho' hd' => ?_
   obtain ⟨p, c', q, e⟩ : ∃ p c' q, plan = p ++ (k, c') :: q := by
    obtain ⟨x, hx, hxi⟩ := List.mem_map.1 (ok.all k (hlin.lt k (by simp at hk ⊢; exact .inr hk)))
    obtain ⟨x1, x2⟩ := x
    simp at hxi
    subst hxi
    obtain ⟨p, q, e⟩ := List.append_of_mem hx
    exact ⟨p, x2, q, e⟩
   obtain ⟨o2, d2, p1, p2, p3, _, _⟩ := hpend k hk hgk
   rw [ho'] at p1; cases p1
   obtain ⟨d3, q1, q2, q3⟩ := (ok.ord p k c' q e o' ho').2.1 p3
   rw [hd'] at q1; cases q1
   by_cases hki : k = i
   ·subst hki; rw [ho] at ho'; cases ho'; exact q2 ht
   ·have hanc := q3 i o ho (Ne.symm hki) (by simp [names, ht])
    have hk' : k ∈ a ++ c := by
     rcases List.mem_cons.1 hk with z | z
     ·exact absurd z hki
     ·exact z
    exact hlin.mz rfl hk' hanc
  have heval : ∀ (ds : List Deferred), ∀ x ∈ o.op.operands.toList, aG μ I (evalOp tm x) (Act.eval { tmps, defers := ds } x) := by
   intro ds x hx
   refine iT fun t ht v hv => ?_
   subst ht
   exact hlook t (by simp [looks]; left; exact nc hx) v hv
  have hguard : ∀ b, aY ops tm o = some b -> Region.wanted o (yielded ops tmps) = b := by
   intro b hb
   exact l6 hb fun t ht v hv => hlook t (by simp [looks, ht]) v hv
  have hnd : ∀ c', o.op ≠ .defer c' := by
   intro c' hc'
   unfold late at hl
   rw [hc'] at hl
   cases hl
  -- one operation done
  have next : ∀ (μ1 : Mu) (w1 : World) (u : Value), Ext μ μ1 I I -> dz lo μ μ1 h h -> bL μ1 I w0 h w1 -> aG μ1 I (bJ tm d) u ->
    (∀ k ∈ a ++ c, kI restA k -> ∀ o', ops[k]? = some o' -> oy o' = true -> aY ops tm o' = some true -> μ1 (β k) = none) ->
    (∀ (b : Frame) (ds : List Deferred) (k : List Item) (cs : List Frame), step P (lone (b.atR ⟨tmps, ds⟩ (.inRegion ops (i :: (a ++ c)) :: k)) cs w) = .next (lone (b.atR ⟨tmps.setIfInBounds d u, ds⟩ (.inRegion ops (a ++ c) :: k)) cs w1)) ->
    ∃ μ' tmps' w', Ext μ μ' I I /\ dz lo μ μ' h h /\ bL μ' I w0 h w' /\ tmps'.size = tmps.size /\ oT P μ' I h true lo hi ops plan β restA c tm tmps' /\
     ∀ (b : Frame) (ds : List Deferred) (k : List Item) (cs : List Frame), Steps P (lone (b.atR ⟨tmps, ds⟩ (.inRegion ops (i :: a ++ c) :: k)) cs w) (lone (b.atR ⟨tmps', ds⟩ (.inRegion ops c :: k)) cs w') := by
   intro μ1 w1 u hx1 hk1 W1 hu hfree hstep
   have hD : oT P μ1 I h true lo hi ops plan β restA (a ++ c) tm (tmps.setIfInBounds d u) := by
    refine ⟨ok, hpre, ⟨doneC ++ [i], by simpa using hlin⟩, fun x hx => ?_, fun k hk hgk => ?_, fun k1 hk1 k2 hk2 => hinj k1 (List.mem_cons_of_mem _ hk1) k2 (List.mem_cons_of_mem _ hk2), fun t x ht hno => ?_⟩
    ·rcases List.mem_cons.1 (hsub x hx) with z | z
     ·exact absurd z (hgi x hx)
     ·exact z
    ·obtain ⟨o', d', p1, p2, p3, p4, p5⟩ := hpend k (List.mem_cons_of_mem _ hk) hgk
     refine ⟨o', d', p1, p2, p3, by simpa using p4, ?_⟩
     unfold eR at p5 ⊢
     cases hw : aY ops tm o' with
     | none => rw [hw] at p5; exact p5
     | some b =>
      rw [hw] at p5
      cases b with
      | false => exact p5
      | true =>
       simp only at p5 ⊢
       split at p5
       ·rename_i hn
        rw [if_pos hn]
        obtain ⟨ob, z1, z2, z3, z4, z5⟩ := p5
        exact ⟨ob, z1, hfree k hk hgk o' p1 hn hw, z3, z4, z5⟩
       ·rename_i hn; rw [if_neg hn]; exact p5
    ·by_cases htd : t = d
     ·subst htd
      have : bJ tm t = x := by simp [bJ, ht]
      rw [this] at hu
      simpa [Array.getD_eq_getD_getElem?, hdlt] using hu
     ·have := (htms t x ht fun k hk hgk o' ho' hd' => by
       rcases List.mem_cons.1 hk with rfl | hk
       ·rw [ho] at ho'; cases ho'; rw [hd] at hd'; cases hd'; exact htd rfl
       ·exact hno k hk hgk o' ho' hd').mono hx1
      rw [Array.getD_eq_getD_getElem?] at this ⊢
      rw [Array.getElem?_setIfInBounds_ne (Ne.symm htd)]
      exact this
   obtain ⟨μ', tmps', w', g1, g2, g3, g4, g5, g6⟩ := ih c μ1 w1 _ hD (fun k hk => hg k (List.mem_cons_of_mem _ hk)) W1
   refine ⟨μ', tmps', w', hx1.trans g1, fun b hb e => ?_, g3, by rw [g4]; simp, g5, fun b ds k cs => Steps.head (hstep b ds k cs) (g6 b ds k cs)⟩
   obtain ⟨z1, z2⟩ := hk1 b hb e
   obtain ⟨z3, z4⟩ := g2 b hb z1
   exact ⟨z3, rfl⟩
  unfold eR at hp
  cases hw : aY ops tm o with
  | none => rw [hw] at hp; exact hp.elim
  | some bw =>
   rw [hw] at hp
   have hwc := hguard bw hw
   cases bw with
   | false =>
    -- it is passed over
    simp only at hp
    refine next μ w undef (.refl _ _) (fun _ _ e => ⟨e, rfl⟩) W (by rw [hp]; exact .tuple .nil) (fun k hk hgk o' ho' hn hwk => ?_) fun b ds k cs => ?_
    ·obtain ⟨o2, d2, p1, p2, p3, p4, p5⟩ := hpend k (List.mem_cons_of_mem _ hk) hgk
     rw [ho'] at p1; cases p1
     unfold eR at p5
     rw [hwk] at p5
     simp only [hn, if_true] at p5
     obtain ⟨_, _, z, _⟩ := p5
     exact z
    ·have := stepR_op_skip (P := P) (b := b) (a := ⟨tmps, ds⟩) (k := k) (cs := cs) (w := w) (ops := ops) (i := i) (rest := a ++ c) (by rw [ho]; simpa using hwc)
     rw [this, ho, Option.bind_some, hd]; rfl
   | true =>
    simp only at hp
    cases hn : oy o with
    | false =>
     rw [hn] at hp
     simp only [Bool.false_eq_true, if_false] at hp
     have hv := hp (by simp)
     have hrun := fun ds => tf (P := P) W hv (heval ds)
     obtain ⟨u, hu1, hu2⟩ := hrun []
     refine next μ w u (.refl _ _) (fun _ _ e => ⟨e, rfl⟩) W hu2 (fun k hk hgk o' ho' hn hwk => ?_) fun b ds k cs => ?_
     ·obtain ⟨o2, d2, p1, p2, p3, p4, p5⟩ := hpend k (List.mem_cons_of_mem _ hk) hgk
      rw [ho'] at p1; cases p1
      unfold eR at p5
      rw [hwk] at p5
      simp only [hn, if_true] at p5
      obtain ⟨_, _, z, _⟩ := p5
      exact z
     ·rw [jk (a := ⟨tmps, ds⟩) ho hwc (by rw [Oper.semAt_eq _ _ _ hnd]; exact hu1), finish_atR' _ _ _ _ _ _ _ ho hd]
    | true =>
     rw [hn] at hp
     simp only [if_true] at hp
     obtain ⟨ob, hv, hm, hob, hlo', hhi'⟩ := hp
     obtain ⟨q, u, N, hu1, hu2⟩ := ti (P := P) hv (heval []) w
     have hx1 : Ext μ (gH μ (β i) (w.heap.size, 0, N)) I I := .gH hm
     obtain ⟨hu3, hu4⟩ := hu2 _ hx1 (bR _ _ _)
     refine next (gH μ (β i) (w.heap.size, 0, N)) (w.bn q) u hx1 (fun b hb e => ⟨by rw [dN _ _ (by omega)]; exact e, rfl⟩) (W.push hob hm hu3) hu4 (fun k hk hgk o' ho' hnk hwk => ?_) fun b ds k cs => ?_
     ·obtain ⟨o2, d2, p1, p2, p3, p4, p5⟩ := hpend k (List.mem_cons_of_mem _ hk) hgk
      rw [ho'] at p1; cases p1
      unfold eR at p5
      rw [hwk] at p5
      simp only [hnk, if_true] at p5
      obtain ⟨_, _, z, _⟩ := p5
      rw [dN _ _ ?_]
      ·exact z
      ·intro hb
       exact hnoti k hk (hinj k (List.mem_cons_of_mem _ hk) i (List.mem_cons_self) hgk hgi o' o ho' ho hnk hn hwk hw hb)
     ·rw [jk (a := ⟨tmps, ds⟩) ho hwc (by rw [Oper.semAt_eq _ _ _ hnd]; exact hu1), finish_atR' _ _ _ _ _ _ _ ho hd]
end
end Go.a9
namespace Go.a9
open Go.RowKit (Below)
set_option linter.unusedSectionVars false
structure cx (P : Program) : Prop where
 mixed : P.follows .mixedOrders = true
 plain : ∀ (f : FuncId) (fn : Func), P.funcs[f]? = some fn -> (fn.name == "runtime.NumGoroutine") = false
section
variable {P : Program} {μ μ' : Mu} {I : fu} [ig I] {h h' : ah} {w0 w w' : World}
def HR (P : Program) (μ : Mu) (I : fu) (n : j9) (args : List AV) (r : Result Next) (w' : World) : Prop :=
 match n with
 | .value v => ∃ u, (r = .ok (.value u) w' \/ (r = .ok .skip w' /\ u = undef)) /\ aG μ I v u
 | .enter f args => ∃ args', r = .ok (.enter f args') w' /\ aL μ I args args'.toList
 | .round l => ∃ B o N args', μ l = some (B, o, N) /\ r = (Instr.yield B args').run P w' /\ aL μ I args args'.toList
 | .defer d => ∃ d', r = .ok (.defer d') w' /\ zA μ I d d'
 | .recover => r = .ok .recover w'
 | .panic v => ∃ u, r = .halt (.panic u) w' /\ aG μ I v u
theorem oJ (K : cx P) {f : FuncId} {fn : Func} {c : Code} (h1 : P.funcs[f]? = some fn) (h2 : fn.body = some c) (args : Array Value) (w : World) : (callFunc f args).run P w = .ok (.enter f args) w := by
 unfold callFunc
 have := K.plain f fn h1
 simp only [Sem.run_bind, run_program, Result.andThen_ok, h1, this, h2, Bool.false_eq_true, if_false, Option.isNone_some, Sem.run_pure]
theorem pV (K : cx P) {f : AV} {args : List AV} {n : j9} (e : me P f args = some n) {fv : Value} {as_ : Array Value} (r : aG μ I f fv) (q : aL μ I args as_.toList) (w : World) :
  HR P μ I n args ((do let d <- Deferred.ofValue fv as_; invoke d.target d.args : Sem Next).run P w) w := by
 unfold me at e
 split at e
 ·rename_i g first captured
  cases hf : P.funcs[g]? with
  | none => rw [hf] at e; cases e
  | some fn =>
   rw [hf] at e
   simp only at e
   cases hb : fn.body with
   | none => rw [hb] at e; cases e
   | some c =>
    rw [hb] at e
    simp at e
    subst e
    cases r with
    | func r1 r2 =>
     rename_i u v
     refine ⟨u ++ as_ ++ v, ?_, ?_⟩
     ·simp [Deferred.ofValue, invoke, oJ K hf hb]
     ·simpa using (r1.append q).append r2
 ·rename_i l
  simp at e
  subst e
  cases r with
  | aF hm =>
   rename_i B o N
   refine ⟨B, o, N, as_, hm, ?_, q⟩
   simp [Deferred.ofValue, invoke]
 ·cases e
theorem zq (K : cx P) (W : bL μ I w0 h w) {tm : Tr AV} {ρ : Operand -> Value} {o : Oper} {n : j9} (e : cQ P h tm o = some (n, h'))
  (hop : ∀ x ∈ o.op.operands.toList, aG μ I (evalOp tm x) (ρ x)) :
  ∃ μ' w', eS P μ μ' I w0 h h' w' /\ HR P μ' I n (match o.op with | .call c => c.args.toList.map (evalOp tm) | _ => []) ((execOp ρ o).run P w) w' := by
 obtain ⟨dst, op, type, pos, after, guard⟩ := o
 unfold cQ at e
 unfold execOp
 cases op <;> simp only at e hop ⊢ <;> try (cases e; done)
 case store t a x =>
  cases hs : gA P h t (evalOp tm a) (evalOp tm x) with
  | none => rw [hs] at e; simp at e
  | some h1 =>
   rw [hs] at e
   simp at e
   obtain ⟨rfl, rfl⟩ := e
   obtain ⟨w', h1, h2, h3, h4⟩ := zf (P := P) W hs (hop a (by simp [Op.operands])) (hop x (by simp [Op.operands]))
   exact ⟨μ, w', ⟨.refl _ _, h2, by omega, fun b hb e => ⟨e, h4 b e⟩⟩, undef, .inr ⟨by simp [h1], rfl⟩, .bad _⟩
 case mapUpdate t m k x =>
  cases hs : gC P h t (evalOp tm m) (evalOp tm k) (evalOp tm x) with
  | none => rw [hs] at e; simp at e
  | some h1 =>
   rw [hs] at e
   simp at e
   obtain ⟨rfl, rfl⟩ := e
   obtain ⟨w', h1, h2⟩ := l7 (P := P) W hs (hop m (by simp [Op.operands])) (hop k (by simp [Op.operands])) (hop x (by simp [Op.operands]))
   exact ⟨μ, w', h2, undef, .inr ⟨by simp [h1], rfl⟩, .bad _⟩
 case insert t m k x =>
  cases hs : gC P h t (evalOp tm m) (evalOp tm k) (evalOp tm x) with
  | none => rw [hs] at e; simp at e
  | some h1 =>
   rw [hs] at e
   simp at e
   obtain ⟨rfl, rfl⟩ := e
   obtain ⟨w', h1, h2⟩ := l7 (P := P) W hs (hop m (by simp [Op.operands])) (hop k (by simp [Op.operands])) (hop x (by simp [Op.operands]))
   exact ⟨μ, w', h2, undef, .inr ⟨by simp [h1], rfl⟩, .bad _⟩
 case call c =>
  obtain ⟨callee, args, argTypes⟩ := c
  have hargs : aL μ I (args.toList.map (evalOp tm)) (args.map ρ).toList := by
   have := aL.map (μ := μ) (I := I) (f := evalOp tm) (g := ρ) (l := args.toList) (fun y hy => hop y (by simp [Op.operands, Call.operands]; right; simpa using hy))
   simpa using this
  cases callee <;> simp only at e <;> try (cases e; done)
  case value f =>
   have hf := hop f (by simp [Op.operands, Call.operands])
   cases ha : me P (evalOp tm f) (args.toList.map (evalOp tm)) with
   | none => rw [ha] at e; simp at e
   | some n' =>
    rw [ha] at e
    simp at e
    obtain ⟨rfl, rfl⟩ := e
    refine ⟨μ, w, .refl W, ?_⟩
    have := pV K ha hf hargs w
    simpa [resolve] using this
  case builtin b =>
   split at e
   ·-- append
    rename_i s x st xt hx ht
    rw [hx] at hargs
    have hm : args.map ρ = #[ρ s, ρ x] := by apply Array.ext'; simp [hx]
    have hty : argTypes = #[st, xt] := by apply Array.ext'; simp [ht]
    rw [hm] at hargs
    simp only [List.map_cons, List.map_nil] at hargs
    cases hargs with
    | cons q1 q2 =>
    cases q2 with
    | cons q2 _ =>
    cases ha : gR P h st xt (evalOp tm s) (evalOp tm x) with
    | none => rw [ha] at e; simp at e
    | some vh =>
     obtain ⟨v, h1⟩ := vh
     rw [ha] at e
     simp at e
     obtain ⟨rfl, rfl⟩ := e
     obtain ⟨μ', u, w', g1, g2, g3⟩ := xZ (P := P) (ty := type) W ha q1 q2
     refine ⟨μ', w', g2, u, .inl ?_, g3⟩
     simp [resolve, invoke, builtin, hm, hty, g1]
   ·-- copy
    rename_i d s t ts hx ht
    rw [hx] at hargs
    have hm : args.map ρ = #[ρ d, ρ s] := by apply Array.ext'; simp [hx]
    have hty : argTypes[0]? = some t := by rw [<- Array.getElem?_toList, ht]; rfl
    rw [hm] at hargs
    simp only [List.map_cons, List.map_nil] at hargs
    cases hargs with
    | cons q1 q2 =>
    cases q2 with
    | cons q2 _ =>
    cases ha : uX P h t (evalOp tm d) (evalOp tm s) with
    | none => rw [ha] at e; simp at e
    | some vh =>
     obtain ⟨v, h1⟩ := vh
     rw [ha] at e
     simp at e
     obtain ⟨rfl, rfl⟩ := e
     obtain ⟨u, w', g1, g2, g3⟩ := A3 (P := P) (ty := type) W hty ha q1 q2
     refine ⟨μ, w', g2, u, .inl ?_, g3⟩
     simp [resolve, invoke, builtin, hm, g1]
   ·-- recover
    rename_i hx
    simp at e
    obtain ⟨rfl, rfl⟩ := e
    exact ⟨μ, w, .refl W, by simp [HR, resolve, invoke, builtin]⟩
   ·cases e
 case defer c =>
  obtain ⟨callee, args, argTypes⟩ := c
  cases callee <;> simp only at e <;> try (cases e; done)
  rename_i f
  have hf := hop f (by simp [Op.operands, Call.operands])
  have hargs : aL μ I (args.toList.map (evalOp tm)) (args.map ρ).toList := by
   have := aL.map (μ := μ) (I := I) (f := evalOp tm) (g := ρ) (l := args.toList) (fun y hy => hop y (by simp [Op.operands, Call.operands]; right; simpa using hy))
   simpa using this
  split at e
  ·rename_i g first captured hq
   simp at e
   obtain ⟨rfl, rfl⟩ := e
   rw [hq] at hf
   generalize hfv : ρ f = fv at hf
   cases hf with
   | func r1 r2 =>
    rename_i u v
    refine ⟨μ, w, .refl W, { target := .fn (.func g) v, args := u ++ args.map ρ }, ?_, .func ?_⟩
    ·simp [resolve, hfv, Deferred.ofValue]
    ·simpa using (r1.append hargs).append r2
  ·cases e
 case panic x =>
  have hx := hop x (by simp [Op.operands])
  split at e
  ·rename_i t v hq
   simp at e
   obtain ⟨rfl, rfl⟩ := e
   rw [hq] at hx
   generalize hxv : ρ x = xv at hx
   cases hx with
   | iface r =>
    exact ⟨μ, w, .refl W, _, by simp [Instr.panic], .iface r⟩
  ·cases e
theorem iL : ∀ {l : List AV} {us : List Value} {tm : Tr AV} {i : Nat} {tmps : Array Value}, h9 μ I tm tmps -> aL μ I l us -> (∀ j v, us[j]? = some v -> tmps.getD (i + j) undef = v) -> h9 μ I (enter.fc tm i l) tmps
 | [], _, tm, i, tmps, r, .nil, _ => r
 | a :: l, _, tm, i, tmps, r, .cons (u := u) q qs, h => by
  simp only [enter.fc]
  refine iL ?_ qs (fun j v e => ?_)
  ·intro t x e
   rw [Tr.aP] at e
   split at e
   ·rename_i ht; subst ht; cases e
    have := h 0 u rfl
    simp at this
    rw [Array.getD_eq_getD_getElem?]
    rw [this]; exact q
   ·exact r t x e
  ·have := h (j + 1) v (by simpa using e)
   rw [<- this]
   congr 1
   omega
theorem pK {f : FuncId} {args : List AV} {as_ : Array Value} {d : Bool} {fr : ak} (e : enter P f args d = some fr) (q : aL μ I args as_.toList) (act : Bool) (lo hi : Nat) (h : ah) :
  eg P μ I h act lo hi fr (Frame.enter P f as_ (if d = true then .deferred else .normal)) := by
 unfold enter at e
 cases hf : P.funcs[f]? with
 | none => rw [hf] at e; cases e
 | some fn =>
  rw [hf] at e
  simp only at e
  cases hb : fn.body with
  | none => rw [hb] at e; cases e
  | some c =>
   rw [hb] at e
   simp only at e
   obtain ⟨h1, e⟩ := aJ e
   have h1 := Nat.le_of_ble_eq_true h1
   simp at e
   subst e
   have hl := q.length
   simp only [Array.length_toList] at hl
   refine ⟨rfl, ⟨fn, hf⟩, rfl, .none, .nil, ?_, .run rfl (.plain ?_ ?_)⟩
   ·simp [Frame.enter, hf]; omega
   ·simp only [Frame.enter, hf, Option.bind_some, hb, Option.getD_some]
    exact .cons (.code c) .nil
   ·refine iL (fun t v e => by simp [Tr.get_nil] at e) q (fun j v e => ?_)
    have hj := (List.getElem?_eq_some_iff.1 e).1
    simp only [Array.length_toList] at hj
    have e' : as_[j]? = some v := by simpa using e
    simp only [Frame.enter, Nat.zero_add]
    rw [Array.getD_eq_getD_getElem?, Array.getElem?_append_left hj, e']
    rfl
theorem kX {r : fS} : ∀ {ps : List Tmp} {l : List AV} {us : List Value} {tm tm' : Tr AV} {tmps : Array Value}, cD.o7 r tm ps l = some tm' -> ps.length = l.length -> h9 μ I tm tmps -> tmps.size = r.nt -> aL μ I l us ->
  h9 μ I tm' ((ps.zip us).foldl (fun tmps (t, a) => tmps.setIfInBounds t a) tmps) /\ ((ps.zip us).foldl (fun tmps (t, a) => tmps.setIfInBounds t a) tmps).size = r.nt
 | [], l, us, tm, tm', tmps, e, hl, ht, hs, q => by simp [cD.o7] at e; subst e; exact ⟨ht, hs⟩
 | p :: ps, [], us, tm, tm', tmps, e, hl, ht, hs, q => by simp at hl
 | p :: ps, a :: l, _, tm, tm', tmps, e, hl, ht, hs, .cons (u := u) q qs => by
  simp only [cD.o7] at e
  obtain ⟨h1, e⟩ := aJ e
  have h1 := jI h1
  simp only [List.zip_cons_cons, List.foldl_cons]
  exact kX e (by simpa using hl) (ht.set (by rw [hs]; exact h1) q) (by simpa using hs) qs
theorem At {l B o N : Nat} {r : fS} {c : Loop} {args : List AV} {as_ : Array Value} {fr : ak} (hm : μ l = some (B, o, N)) (hr : wa μ I r c) (e : cD l r args = some fr) (q : aL μ I args as_.toList) (hfn : ∃ fn, P.funcs[r.fn]? = some fn)
  (act : Bool) (lo hi : Nat) (h : ah) : as_.size = c.params.size /\
  eg P μ I h act lo hi fr (Frame.round B c.fn ((c.params.zip as_).foldl (fun tmps (t, a) => tmps.setIfInBounds t a) c.tmps) c.assign c.body .normal) := by
 unfold cD at e
 obtain ⟨h1, e⟩ := aJ e
 have h1 := aq h1
 have hl := q.length
 simp only [Array.length_toList] at hl
 cases hs : cD.o7 r r.tm r.params.toList args with
 | none => rw [hs] at e; cases e
 | some tm =>
  rw [hs] at e
  simp at e
  subst e
  refine ⟨by rw [hr.params]; omega, ?_⟩
  obtain ⟨k1, k2⟩ := kX (r := r) hs (by simpa using h1.symm) hr.tm hr.nt q
  have key : (c.params.zip as_).foldl (fun tmps (t, a) => tmps.setIfInBounds t a) c.tmps = (r.params.toList.zip as_.toList).foldl (fun tmps (t, a) => tmps.setIfInBounds t a) c.tmps := by
   rw [hr.params, <- Array.foldl_toList, Array.toList_zip]
  rw [key]
  refine ⟨hr.fn, hfn, rfl, .some hm, .nil, k2, .run rfl (.plain ?_ k1)⟩
  simp only [Frame.round]
  rw [hr.assign, hr.body]
  exact .cons (.code _) (.cons .beginRound (.cons (.code _) .nil))
end
end Go.a9
namespace Go.a9
open Go.RowKit (Below)
set_option linter.unusedSectionVars false
section
variable {P : Program} {μ μ' : Mu} {I : fu} [ig I] {h h' : ah} {w0 w w' : World}
theorem u5 {act : Bool} {lo hi : Nat} {todo : List bu} {tm : Tr AV} {todoc : List Item} {tmps : Array Value} (r : eB P μ I h act lo hi todo tm todoc tmps) : ∀ d b s v k, todoc ≠ .call d b s v :: k := by
 intro d b s v k e
 subst e
 cases r with
 | plain a b => cases a with | cons a b => cases a
theorem z9 {todo : List bu} {tm : Tr AV} {tmps : Array Value} (ht : h9 μ I tm tmps) : h9 μ I (qF todo tm) tmps := by
 unfold qF
 split
 ·intro t v e; simp [Tr.get_nil] at e
 ·exact ht
theorem B5 {act : Bool} {lo hi : Nat} {todo : List bu} {tm : Tr AV} {todoc : List Item} {tmps : Array Value} (r : eB P μ I h act lo hi todo tm todoc tmps) : h9 μ I (qF todo tm) tmps := by
 cases r with
 | plain a b => exact z9 b
 | drawn a b d => intro t v e; simp [qF, Tr.get_nil] at e
theorem uw {lo hi : Nat} {act act' : Bool} {lo' hi' : Nat} {f : ak} {c : Frame} {a : List jK} {b : List PanicEntry} (r : eg P μ I h act lo hi f c) (q : iY μ I a b) : eg P μ I h act' lo' hi' (zk f a) (c.raise b) := by
 obtain ⟨r1, r2, r3, r4, r5, r6, r7⟩ := r
 obtain ⟨fn, nt, tm, todo, defers, mode, deferred, roundOf⟩ := f
 simp only at r1 r2 r3 r4 r5 r6 r7
 have hcut : ∀ {tm}, h9 μ I tm c.tmps -> h9 μ I (qF todo tm) c.tmps := fun ht => z9 ht
 have main : ∀ (b' : List PanicEntry) (a' : List jK), (c.raise b).mode = .panicking b' -> iY μ I a' b' -> (c.raise b).fn = c.fn -> (c.raise b).kind = c.kind -> (c.raise b).roundOf = c.roundOf -> (c.raise b).defers = c.defers -> (c.raise b).tmps = c.tmps ->
   h9 μ I (qF todo tm) c.tmps -> eg P μ I h act' lo' hi' { fn, nt, tm := qF todo tm, todo, defers, mode := .panicking a', deferred, roundOf } (c.raise b) := by
  intro b' a' e1 e2 e3 e4 e5 e6 e7 e8
  exact ⟨e3.trans r1, r2, e4.trans r3, by rw [e5]; exact r4, by rw [e6]; exact r5, by rw [e7]; exact r6, .tI e1 e2 (by rw [e7]; exact e8)⟩
 cases r7 with
 | run hm ht =>
  have e : ∀ {x}, c.raise b = x -> x = { c with mode := .panicking b } := fun h => by rw [<- h]; simp [Frame.raise, hm]
  refine main b a (by simp [Frame.raise, hm]) q ?_ ?_ ?_ ?_ ?_ (B5 ht) <;> simp [Frame.raise, hm]
 | ret hm ht =>
  refine main b a (by simp [Frame.raise, hm]) q ?_ ?_ ?_ ?_ ?_ (hcut ht) <;> simp [Frame.raise, hm]
 | tI hm hc ht =>
  rename_i a' b'
  refine main (b ++ b') (a ++ a') (by simp [Frame.raise, hm]) (q.append hc) ?_ ?_ ?_ ?_ ?_ (hcut ht) <;> simp [Frame.raise, hm]
theorem eQ.om {x : Option Nat} (r : eQ μ Option.none x) : x = Option.none := by cases r; rfl
theorem xS {c : Frame} {cs : List Frame} {s : Sem Next} {g : FuncId} {as' : Array Value} (hno : ∀ d b s v k, c.todo ≠ .call d b s v :: k) (h1 : s.run P w = .ok (.enter g as') w') :
  (stepG.apply P true c cs none s w).bare = .go { frame := Frame.enter P g as' .normal, callers := c :: cs, status := .running, dying := none } w' := by
 obtain ⟨fn, tmps, todo, defers, mode, kind, roundOf⟩ := c
 cases todo with
 | nil => simp [stepG.apply, h1]
 | cons it k => cases it <;> first | exact absurd rfl (hno _ _ _ _ _) | simp [stepG.apply, h1]
theorem pQ (K : cx P) {f : ak} {c : Frame} {callers : List ak} {cs tl : List Frame} {n : j9} {args : List AV} {m' : bc} {lo hi : Nat} {s : Sem Next} (hap : apply P f callers n h' args = some m')
  (hm : f.mode = .run) (hF : eg P μ' I h' false lo hi f c) (hlo : lo <= hi) (hhi : hi <= h'.next) (hS : Stack P μ' I h' lo callers cs) (hW : bL μ' I w0 h' w') (hR : HR P μ' I n args (s.run P w) w') :
  ∃ c' cs' w'', (stepG.apply P true c (cs ++ tl) none s w).bare = .go { frame := c', callers := cs' ++ tl, status := .running, dying := none } w'' /\ oS P μ' I w0 m' c' cs' w'' := by
 have hno : ∀ d b s v k, c.todo ≠ .call d b s v :: k := by
  have hst := hF.st
  rw [hm] at hst
  cases hst with
  | run a b => exact u5 b
 have hcm : c.mode = .run := by
  have hst := hF.st
  rw [hm] at hst
  cases hst with | run a b => exact a
 -- a value
 have value : ∀ {f : ak} {c : Frame} {v : AV} {u : Value} {w'' : World} {callers : List ak} {cs : List Frame}, f.mode = .run -> eg P μ' I h' false lo hi f c -> Stack P μ' I h' lo callers cs -> bL μ' I w0 h' w'' -> aG μ' I v u ->
   ∀ {f'}, bF P h' f v = some f' -> oS P μ' I w0 { fr := f', callers, h := h' } (c.finish u) cs w'' := by
  intro f c v u w'' callers cs hm hF hS hW hv f' e
  exact ⟨⟨lo, Nat.le_trans hlo hhi, (kB e hm hF hv).jd (Nat.le_refl _) hhi, hS⟩, hW⟩
 cases n with
 | value v =>
  obtain ⟨u, h1, h2⟩ := hR
  simp only [apply] at hap
  cases he : bF P h' f v with
  | none => rw [he] at hap; cases hap
  | some f' =>
   rw [he] at hap
   simp at hap
   subst hap
   refine ⟨c.finish u, cs, w', ?_, value hm hF hS hW h2 he⟩
   rcases h1 with h1 | ⟨h1, rfl⟩ <;> simp [stepG.apply, h1]
 | enter g as_ =>
  obtain ⟨as', h1, h2⟩ := hR
  simp only [apply] at hap
  cases he : enter P g as_ false with
  | none => rw [he] at hap; cases hap
  | some f' =>
   rw [he] at hap
   simp at hap
   subst hap
   have hE := pK he h2 true h'.next h'.next h'
   simp only [Bool.false_eq_true, if_false] at hE
   refine ⟨_, c :: cs, w', ?_, ⟨⟨h'.next, Nat.le_refl _, hE, .cons (hF.jd (Nat.le_refl _) hhi) (by omega) hS⟩, hW⟩⟩
   exact xS hno h1
 | round l =>
  obtain ⟨B, o, N, as', hmu, h1, h2⟩ := hR
  simp only [apply] at hap
  cases hg : getLoop h' l with
  | none => rw [hg] at hap; cases hap
  | some r =>
   rw [hg] at hap
   simp only at hap
   split at hap
   case h_2 => cases hap
   case h_1 fn hfn =>
   cases he : cD l r args with
   | none => rw [he] at hap; cases hap
   | some f' =>
    rw [he] at hap
    simp at hap
    subst hap
    have hgl : h'.get l = some (.loop r) := by
     unfold getLoop at hg
     split at hg
     ·rename_i q; cases hg; exact q
     ·cases hg
    obtain ⟨obj, ho, hor⟩ := hW.bj _ _ _ _ _ hgl hmu
    cases hor with
    | loop hl =>
     rename_i L
     obtain ⟨k1, k2⟩ := At (P := P) hmu hl he h2 ⟨fn, hfn⟩ true h'.next h'.next h'
     refine ⟨_, c :: cs, w', ?_, ⟨⟨h'.next, Nat.le_refl _, k2, .cons (hF.jd (Nat.le_refl _) hhi) (by omega) hS⟩, hW⟩⟩
     rw [run_yield ho k1] at h1
     simp [stepG.apply, h1]
 | defer d =>
  obtain ⟨d', h1, h2⟩ := hR
  simp only [apply] at hap
  split at hap
  case h_2 => cases hap
  case h_1 hro =>
  cases he : bF P h' { f with defers := d :: f.defers } .bad with
  | none => rw [he] at hap; cases hap
  | some f' =>
   rw [he] at hap
   simp at hap
   subst hap
   have hF' : eg P μ' I h' false lo hi { f with defers := d :: f.defers } { c with defers := d' :: c.defers } := by
    refine ⟨hF.fn, hF.has, hF.kind, hF.round, .cons h2 hF.defers, hF.size, ?_⟩
    have hst := hF.st
    simp only
    rw [hm] at hst ⊢
    cases hst with
    | run a b => exact .run a b
   refine ⟨_, cs, w', ?_, value (c := { c with defers := d' :: c.defers }) (u := undef) (by exact hm) hF' hS hW (.bad _) he⟩
   simp [stepG.apply, h1]
 | recover =>
  have h1 : s.run P w = .ok .recover w' := hR
  simp only [apply] at hap
  split at hap
  case h_2 => cases hap
  case h_1 hro =>
  have hcr : c.roundOf = none := by
   have := hF.round
   rw [hro] at this
   exact this.om
  split at hap
  case h_2 => cases hap
  case h_1 c1 rest hd =>
  have hck : c.kind = .deferred := by rw [hF.kind, hd]; rfl
  cases hS with
  | cons hF1 hlo1 hS1 =>
  rename_i lo1 cc cs1
  split at hap
  ·rename_i v older hmode
   cases he : bF P h' f v with
   | none => rw [he] at hap; cases hap
   | some f' =>
    rw [he] at hap
    simp at hap
    subst hap
    have hst := hF1.st
    rw [hmode] at hst
    cases hst with
    | tI z1 z2 z3 =>
     cases z2 with
     | cons hv z2 =>
      rename_i u oc
      refine ⟨c.finish u, { cc with mode := .panicking ({ v := u, recovered := true } :: oc) } :: cs1, w', ?_, ?_⟩
      ·simp [stepG.apply, h1, hcr, tryRecover, hck, z1]
      ·refine ⟨⟨lo, Nat.le_trans hlo hhi, (kB he hm hF hv).jd (Nat.le_refl _) hhi, .cons ⟨hF1.fn, hF1.has, hF1.kind, hF1.round, hF1.defers, hF1.size, ?_⟩ hlo1 hS1⟩, hW⟩
       exact .tI rfl (.cons hv z2) z3
  ·rename_i hno
   cases he : bF P h' f .cW with
   | none => rw [he] at hap; cases hap
   | some f' =>
    rw [he] at hap
    simp at hap
    subst hap
    refine ⟨c.finish .nilIface, cc :: cs1, w', ?_, value hm hF (.cons hF1 hlo1 hS1) hW .cW he⟩
    have : tryRecover c (cc :: cs1 ++ tl) = none := by
     simp only [List.cons_append, tryRecover, hck]
     have hst := hF1.st
     cases hmode : c1.mode with
     | run => rw [hmode] at hst; cases hst with | run z1 z2 => rw [z1]
     | returning => rw [hmode] at hst; cases hst with | ret z1 z2 => rw [z1]
     | panicking ch =>
      rw [hmode] at hst
      cases hst with
      | tI z1 z2 z3 =>
       rw [z1]
       cases z2 with
       | nil => rfl
       | cons hv z2 =>
        rename_i v u rr a b
        cases rr with
        | true => rfl
        | false => exact absurd hmode (hno _ _)
    rw [List.cons_append] at this ⊢
    simp [stepG.apply, h1, hcr, this]
 | panic v =>
  obtain ⟨u, h1, h2⟩ := hR
  simp only [apply] at hap
  split at hap
  case h_2 => cases hap
  case h_1 t x =>
  simp at hap
  subst hap
  refine ⟨c.raise [{ v := u, recovered := false }], cs, w', by simp [stepG.apply, h1], ⟨⟨lo, Nat.le_trans hlo hhi, uw hF (.cons h2 .nil), hS⟩, hW⟩⟩
end
end Go.a9
