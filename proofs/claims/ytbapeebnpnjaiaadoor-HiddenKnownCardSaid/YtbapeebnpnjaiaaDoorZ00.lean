/- Texts of the claim: AbsTr. -/
set_option linter.unusedVariables false
set_option linter.unusedSimpArgs false
/- Sparse tables, written for the kernel: explicit recursors, and the way to a number as a closure that the kernel finds in its cache. -/
namespace Go.Abs
set_option linter.unusedVariables false
inductive Tr (α : Type) where
  | nil
  | node (x : Option α) (a b c d : Tr α)
inductive D4 where | a | b | c | d
noncomputable def d4 (n : Nat) : D4 :=
  Nat.rec (motive := fun _ => D4) .a (fun k _ => Nat.rec (motive := fun _ => D4) .b (fun k _ => Nat.rec (motive := fun _ => D4) .c (fun _ _ => .d) k) k) n
structure Way (α : Type) where
  get : Tr α → Option α
  put : Option α → Tr α → Tr α
noncomputable def Way.here (α : Type) : Way α :=
  ⟨fun t => Tr.rec (motive := fun _ => Option α) none (fun x _ _ _ _ _ _ _ _ => x) t,
   fun v t => Tr.rec (motive := fun _ => Tr α) (.node v .nil .nil .nil .nil) (fun _ a b c d _ _ _ _ => .node v a b c d) t⟩
noncomputable def Way.ina {α : Type} (w : Way α) : Way α :=
  ⟨fun t => Tr.rec (motive := fun _ => Option α) none (fun _ a _ _ _ _ _ _ _ => w.get a) t,
   fun v t => Tr.rec (motive := fun _ => Tr α) (.node none (w.put v .nil) .nil .nil .nil) (fun x a b c d _ _ _ _ => .node x (w.put v a) b c d) t⟩
noncomputable def Way.inb {α : Type} (w : Way α) : Way α :=
  ⟨fun t => Tr.rec (motive := fun _ => Option α) none (fun _ _ a _ _ _ _ _ _ => w.get a) t,
   fun v t => Tr.rec (motive := fun _ => Tr α) (.node none .nil (w.put v .nil) .nil .nil) (fun x a b c d _ _ _ _ => .node x a (w.put v b) c d) t⟩
noncomputable def Way.inc {α : Type} (w : Way α) : Way α :=
  ⟨fun t => Tr.rec (motive := fun _ => Option α) none (fun _ _ _ a _ _ _ _ _ => w.get a) t,
   fun v t => Tr.rec (motive := fun _ => Tr α) (.node none .nil .nil (w.put v .nil) .nil) (fun x a b c d _ _ _ _ => .node x a b (w.put v c) d) t⟩
noncomputable def Way.ind {α : Type} (w : Way α) : Way α :=
  ⟨fun t => Tr.rec (motive := fun _ => Option α) none (fun _ _ _ _ a _ _ _ _ => w.get a) t,
   fun v t => Tr.rec (motive := fun _ => Tr α) (.node none .nil .nil .nil (w.put v .nil)) (fun x a b c d _ _ _ _ => .node x a b c (w.put v d)) t⟩
noncomputable def wayTo (α : Type) (f : Nat) : Nat → Way α :=
  Nat.rec (motive := fun _ => Nat → Way α) (fun _ => .here α)
    (fun _ ih n => Nat.rec (motive := fun _ => Way α) (.here α)
      (fun k _ => D4.rec (motive := fun _ => Way α) (ih (Nat.div k (nat_lit 4))).ina (ih (Nat.div k (nat_lit 4))).inb (ih (Nat.div k (nat_lit 4))).inc (ih (Nat.div k (nat_lit 4))).ind (d4 (Nat.mod k (nat_lit 4)))) n) f
noncomputable def Tr.get {α : Type} (t : Tr α) (n : Nat) : Option α := (wayTo α (Nat.succ n) n).get t
noncomputable def Tr.set {α : Type} (t : Tr α) (n : Nat) (x : α) : Tr α := (wayTo α (Nat.succ n) n).put (some x) t
noncomputable def Tr.erase {α : Type} (t : Tr α) (n : Nat) : Tr α := (wayTo α (Nat.succ n) n).put none t

theorem wayTo_zero (α : Type) (f : Nat) : wayTo α (f + 1) 0 = .here α := rfl
theorem wayTo_succ (α : Type) (f k : Nat) : wayTo α (f + 1) (k + 1) = match d4 (k % 4) with
    | .a => (wayTo α f (k / 4)).ina | .b => (wayTo α f (k / 4)).inb | .c => (wayTo α f (k / 4)).inc | .d => (wayTo α f (k / 4)).ind := by
  show D4.rec (motive := fun _ => Way α) (wayTo α f (k / 4)).ina (wayTo α f (k / 4)).inb (wayTo α f (k / 4)).inc (wayTo α f (k / 4)).ind (d4 (k % 4)) = _
  cases d4 (k % 4) <;> rfl
theorem wayTo_more (α : Type) : ∀ (f n g : Nat), n < f → n < g → wayTo α f n = wayTo α g n
  | 0, _, _, h, _ => absurd h (Nat.not_lt_zero _)
  | _ + 1, _, 0, _, h => absurd h (Nat.not_lt_zero _)
  | f + 1, 0, g + 1, _, _ => rfl
  | f + 1, k + 1, g + 1, h1, h2 => by
    rw [wayTo_succ, wayTo_succ, wayTo_more α f (k / 4) g (by omega) (by omega)]
theorem d4_inj : ∀ (a b : Nat), a < 4 → b < 4 → d4 a = d4 b → a = b := by
  intro a b ha hb h
  have ca : a = 0 ∨ a = 1 ∨ a = 2 ∨ a = 3 := by omega
  have cb : b = 0 ∨ b = 1 ∨ b = 2 ∨ b = 3 := by omega
  rcases ca with rfl | rfl | rfl | rfl <;> rcases cb with rfl | rfl | rfl | rfl <;> first | rfl | (exact absurd h (by simp [d4]))
theorem Tr.get_nil {α : Type} (n : Nat) : (Tr.nil : Tr α).get n = none := by
  unfold Tr.get
  cases n with
  | zero => rfl
  | succ k => rw [wayTo_succ]; cases d4 (k % 4) <;> rfl

theorem wayTo_nil (α : Type) (f n : Nat) (h : n < f) : (wayTo α f n).get .nil = none := by
  rw [wayTo_more α f n (n + 1) h (Nat.lt_succ_self n)]; exact Tr.get_nil n
theorem way_get_put {α : Type} (x : Option α) : ∀ (f : Nat) (t : Tr α) (n m : Nat), n < f → m < f → (wayTo α f m).get ((wayTo α f n).put x t) = if m = n then x else (wayTo α f m).get t := by
  intro f
  induction f with
  | zero => intro t n m h; omega
  | succ f ih =>
    intro t n m h1 h2
    cases n with
    | zero =>
      cases m with
      | zero => cases t <;> simp [wayTo_zero, Way.here]
      | succ k =>
        rw [wayTo_zero, wayTo_succ, if_neg (by omega)]
        cases d4 (k % 4) <;> cases t <;> simp [Way.here, Way.ina, Way.inb, Way.inc, Way.ind, wayTo_nil α f (k / 4) (by omega)]
    | succ j =>
      cases m with
      | zero =>
        rw [wayTo_zero, wayTo_succ, if_neg (by omega)]
        cases d4 (j % 4) <;> cases t <;> simp [Way.here, Way.ina, Way.inb, Way.inc, Way.ind]
      | succ k =>
        rw [wayTo_succ, wayTo_succ]
        have hk : k / 4 < f := by omega
        have hj : j / 4 < f := by omega
        have hi := fun t => ih t (j / 4) (k / 4) hj hk
        have hn := wayTo_nil α f (k / 4) hk
        by_cases e : d4 (k % 4) = d4 (j % 4)
        · have e' := d4_inj _ _ (Nat.mod_lt k (by omega)) (Nat.mod_lt j (by omega)) e
          have : (k / 4 = j / 4) = (k + 1 = j + 1) := propext ⟨fun h => by omega, fun h => by omega⟩
          rw [← e]
          simp only [this] at hi
          cases d4 (k % 4) <;> cases t <;> simp [Way.ina, Way.inb, Way.inc, Way.ind, hi, hn]
        · have : ¬ k + 1 = j + 1 := fun h => e (by rw [Nat.succ.inj h])
          rw [if_neg this]
          revert e
          cases d4 (k % 4) <;> cases d4 (j % 4) <;> intro e <;> first | exact absurd rfl e | (cases t <;> simp [Way.ina, Way.inb, Way.inc, Way.ind, hn])

theorem Tr.get_put {α : Type} (t : Tr α) (n m : Nat) (x : Option α) : ((wayTo α (Nat.succ n) n).put x t).get m = if m = n then x else t.get m := by
  unfold Tr.get
  rw [wayTo_more α (Nat.succ n) n (n + m + 1) (by omega) (by omega), wayTo_more α (Nat.succ m) m (n + m + 1) (by omega) (by omega)]
  exact way_get_put x _ t n m (by omega) (by omega)
theorem Tr.get_set {α : Type} (t : Tr α) (n m : Nat) (x : α) : (t.set n x).get m = if m = n then some x else t.get m := Tr.get_put t n m (some x)
theorem Tr.get_erase {α : Type} (t : Tr α) (n m : Nat) : (t.erase n).get m = if m = n then none else t.get m := Tr.get_put t n m none
end Go.Abs
