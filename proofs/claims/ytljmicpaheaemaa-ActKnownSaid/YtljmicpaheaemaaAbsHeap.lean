/- The operations that turn memory. -/
import Derived.Test.YtljmicpaheaemaaAbsOps5
namespace Go.Abs
open Go.RowKit (Below)

def upd (μ : Mu) (b : Nat) (x : Nat × Nat × Nat) : Mu := fun c => if c = b then some x else μ c
theorem upd_self (μ : Mu) (b : Nat) (x : Nat × Nat × Nat) : upd μ b x b = some x := by simp [upd]
theorem upd_ne (μ : Mu) {b c : Nat} (x : Nat × Nat × Nat) (h : c ≠ b) : upd μ b x c = μ c := by simp [upd, h]
theorem Ext.upd {μ : Mu} {I : Imm} {b : Nat} {x : Nat × Nat × Nat} (h : μ b = none) : Ext μ (Abs.upd μ b x) I I :=
  ⟨fun c y e => by
    by_cases hc : c = b
    · subst hc; rw [h] at e; cases e
    · rw [upd_ne _ _ hc]; exact e, fun _ _ _ e => e⟩

section
variable {μ μ' : Mu} {I I' : Imm}

theorem DRel.mono (x : Ext μ μ' I I') {a : ADef} {d : Deferred} (h : DRel μ I a d) : DRel μ' I' a d := by
  cases h with
  | func h => exact .func (h.mono x)
  | collected h => exact .collected (x.mu _ _ h)
theorem DRels.mono (x : Ext μ μ' I I') {a : List ADef} {d : List Deferred} (h : DRels μ I a d) : DRels μ' I' a d := by
  induction h with
  | nil => exact .nil
  | cons h _ ih => exact .cons (h.mono x) ih
theorem DRels.append {a b : List ADef} {c d : List Deferred} (h : DRels μ I a c) (g : DRels μ I b d) : DRels μ I (a ++ b) (c ++ d) := by
  induction h with
  | nil => exact g
  | cons h _ ih => exact .cons h ih
theorem TRel.mono (x : Ext μ μ' I I') {tm : Tr AV} {t : Array Value} (h : TRel μ I tm t) : TRel μ' I' tm t := fun k v e => (h k v e).mono x
theorem LRel.mono (x : Ext μ μ' I I') {a : ALoop} {c : Loop} (h : LRel μ I a c) : LRel μ' I' a c :=
  ⟨h.state, h.pending, h.fn, h.nt, h.tm.mono x, h.params, h.assign, h.body, by obtain ⟨o, N, e⟩ := h.defers; exact ⟨o, N, x.mu _ _ e⟩⟩
theorem ERels.mono (x : Ext μ μ' I I') {a : List AEntry} {d : List MapEntry} (h : ERels μ I a d) : ERels μ' I' a d := by
  induction h with
  | nil => exact .nil
  | cons h g b _ ih => exact .cons (h.mono x) (g.mono x) b ih
theorem ORel.mono (x : Ext μ μ' I I') {a : AObj} {o N : Nat} {ob : Obj} (h : ORel μ I a o N ob) : ORel μ' I' a o N ob := by
  cases h with
  | cells h1 h2 h3 => exact .cells h1 h2 fun i a e => let ⟨v, hv, hr⟩ := h3 i a e; ⟨v, hv, hr.mono x⟩
  | map h => exact .map (h.mono x)
  | loop h => exact .loop (h.mono x)
  | deferredNone => exact .deferredNone
  | deferredSome h => exact .deferredSome (h.mono x)
end

def _root_.Go.World.putBlock (w : World) (B : Nat) (ob : Obj) : World := { w with heap := w.heap.setIfInBounds B ob }
def _root_.Go.World.pushBlock (w : World) (ob : Obj) : World := { w with heap := w.heap.push ob }

section
variable {P : Program} {μ : Mu} {I : Imm} {w0 w : World} {h : Heap}

theorem putBlock_get (w : World) (B C : Nat) (ob : Obj) (hB : B < w.heap.size) : (w.putBlock B ob).heap[C]? = if C = B then some ob else w.heap[C]? := by
  simp only [World.putBlock, Array.getElem?_setIfInBounds]
  by_cases e : C = B
  · subst e; simp [hB]
  · rw [if_neg (fun q => e q.symm), if_neg e]
theorem putBlock_size (w : World) (B : Nat) (ob : Obj) : (w.putBlock B ob).heap.size = w.heap.size := by simp [World.putBlock]
theorem pushBlock_get (w : World) (C : Nat) (ob : Obj) : (w.pushBlock ob).heap[C]? = if C = w.heap.size then some ob else w.heap[C]? := by
  simp only [World.pushBlock, Array.getElem?_push]
theorem pushBlock_size (w : World) (ob : Obj) : (w.pushBlock ob).heap.size = w.heap.size + 1 := by simp [World.pushBlock]

theorem cell?_eq {w w' : World} {B o : Nat} (h : w'.heap[B]? = w.heap[B]?) : w'.cell? ⟨B, o, none⟩ = w.cell? ⟨B, o, none⟩ := by
  simp [World.cell?, h]
theorem cell?_lt {w : World} {B o : Nat} {v : Value} (h : w.cell? ⟨B, o, none⟩ = some v) : B < w.heap.size := by
  unfold World.cell? at h
  cases hb : w.heap[B]? with
  | none => simp [hb] at h
  | some x => exact (Array.getElem?_eq_some_iff.1 hb).1

theorem WRel.drew (W : WRel μ I w0 h w) (n : Nat) : WRel μ I w0 h { w with drawn := n } :=
  ⟨⟨W.below.os, W.below.tape, W.below.output, W.below.size, W.below.block⟩, W.live, W.mapped, W.objs, W.inj, W.imm⟩

theorem WRel.kill (W : WRel μ I w0 h w) (b : Nat) : WRel μ I w0 (h.kill b) w := by
  have hk : ∀ c ob, (h.kill b).get c = some ob → h.get c = some ob := by
    intro c ob e; rw [Heap.get_kill] at e; split at e
    · cases e
    · exact e
  exact ⟨W.below, fun c ob e => W.live c ob (hk c ob e), W.mapped, fun c ob B o N e m => W.objs c ob B o N (hk c ob e) m,
    fun c c' ob ob' B o N o' N' e e' => W.inj c c' ob ob' B o N o' N' (hk _ _ e) (hk _ _ e'),
    fun B o v e => ⟨(W.imm B o v e).1, rfl, fun c ob o' N e' => (W.imm B o v e).2.2 c ob o' N (hk _ _ e')⟩⟩

theorem WRel.next_none (W : WRel μ I w0 h w) : μ h.next = none := by
  cases e : μ h.next with
  | none => rfl
  | some x => obtain ⟨B, o, N⟩ := x; have := (W.mapped _ _ _ _ e).2.2; omega

theorem WRel.new (W : WRel μ I w0 h w) (ob : AObj) : WRel μ I w0 (h.new ob) w := by
  have hn := W.next_none
  have hk : ∀ c o, (h.new ob).get c = some o → (c = h.next ∨ h.get c = some o) := by
    intro c o e; rw [Heap.get_new] at e; split at e
    · exact .inl ‹_›
    · exact .inr e
  have hm : ∀ c o x, (h.new ob).get c = some o → μ c = some x → h.get c = some o := by
    intro c o x e m
    rcases hk c o e with rfl | q
    · rw [hn] at m; cases m
    · exact q
  refine ⟨W.below, fun c o e => ?_, fun b B o N e => ?_, fun c o B o' N e m => W.objs c o B o' N (hm _ _ _ e m) m,
    fun c c' o o' B x y z t e e' m m' => W.inj c c' o o' B x y z t (hm _ _ _ e m) (hm _ _ _ e' m') m m', fun B o v e => ⟨(W.imm B o v e).1, rfl, fun c ob' o' N e' m => (W.imm B o v e).2.2 c ob' o' N (hm _ _ _ e' m) m⟩⟩
  · rcases hk c o e with rfl | q
    · show h.next < h.next + 1; omega
    · have := W.live _ _ q; show c < h.next + 1; omega
  · obtain ⟨a, b', c⟩ := W.mapped _ _ _ _ e
    exact ⟨a, b', by show b < h.next + 1; omega⟩

/-- A block that the abstract heap has already comes to be in the world. -/
theorem WRel.push (W : WRel μ I w0 h w) {b N : Nat} {ob : AObj} {o : Obj} (hb : h.get b = some ob) (hm : μ b = none) (hr : ORel (upd μ b (w.heap.size, 0, N)) I ob 0 N o) :
    WRel (upd μ b (w.heap.size, 0, N)) I w0 h (w.pushBlock o) := by
  have hx : Ext μ (upd μ b (w.heap.size, 0, N)) I I := .upd hm
  refine ⟨⟨W.below.os, W.below.tape, W.below.output, ?_, fun k hk => ?_⟩, W.live, fun c B o' N' e => ?_, fun c ob' B o' N' e m => ?_, fun c c' o1 o2 B x y z t e e' m m' => ?_, fun B o' v e => ?_⟩
  · rw [pushBlock_size]; have := W.below.size; omega
  · rw [pushBlock_get, if_neg (by have := W.below.size; omega)]; exact W.below.block k hk
  · rw [pushBlock_size]
    by_cases hc : c = b
    · subst hc; rw [upd_self] at e; cases e
      exact ⟨W.below.size, by omega, W.live _ _ hb⟩
    · rw [upd_ne _ _ hc] at e
      obtain ⟨a1, a2, a3⟩ := W.mapped _ _ _ _ e
      exact ⟨a1, by omega, a3⟩
  · by_cases hc : c = b
    · subst hc; rw [upd_self] at m; cases m
      rw [hb] at e; cases e
      exact ⟨o, by rw [pushBlock_get, if_pos rfl], hr⟩
    · rw [upd_ne _ _ hc] at m
      obtain ⟨q, h1, h2⟩ := W.objs _ _ _ _ _ e m
      have := (W.mapped _ _ _ _ m).2.1
      exact ⟨q, by rw [pushBlock_get, if_neg (by omega)]; exact h1, h2.mono hx⟩
  · by_cases hc : c = b
    · by_cases hc' : c' = b
      · rw [hc, hc']
      · subst hc; rw [upd_self] at m; cases m
        rw [upd_ne _ _ hc'] at m'
        have := (W.mapped _ _ _ _ m').2.1; omega
    · rw [upd_ne _ _ hc] at m
      by_cases hc' : c' = b
      · subst hc'; rw [upd_self] at m'; cases m'
        have := (W.mapped _ _ _ _ m).2.1; omega
      · rw [upd_ne _ _ hc'] at m'
        exact W.inj _ _ _ _ _ _ _ _ _ e e' m m'
  · obtain ⟨h1, _, h2⟩ := W.imm _ _ _ e
    have hlt := cell?_lt h1
    refine ⟨by rw [cell?_eq (w := w)]; exact h1; rw [pushBlock_get, if_neg (by omega)], rfl, fun c ob' o'' N' e' m => ?_⟩
    by_cases hc : c = b
    · subst hc; rw [upd_self] at m; cases m; omega
    · rw [upd_ne _ _ hc] at m; exact h2 _ _ _ _ e' m

/-- A block is written. -/
theorem WRel.update (W : WRel μ I w0 h w) {b B o N : Nat} {ob ob' : AObj} {q : Obj} (hb : h.get b = some ob) (hm : μ b = some (B, o, N)) (hr : ORel μ I ob' o N q) :
    WRel μ I w0 (h.set b ob') (w.putBlock B q) := by
  obtain ⟨b1, b2, b3⟩ := W.mapped _ _ _ _ hm
  have hk : ∀ c x, (h.set b ob').get c = some x → (c = b ∧ x = ob') ∨ (c ≠ b ∧ h.get c = some x) := by
    intro c x e; rw [Heap.get_set] at e; split at e
    · cases e; exact .inl ⟨‹_›, rfl⟩
    · exact .inr ⟨‹_›, e⟩
  have hex : ∀ c x, (h.set b ob').get c = some x → ∃ y, h.get c = some y := by
    intro c x e; rcases hk c x e with ⟨rfl, _⟩ | ⟨_, q⟩
    · exact ⟨_, hb⟩
    · exact ⟨_, q⟩
  refine ⟨⟨W.below.os, W.below.tape, W.below.output, by rw [putBlock_size]; exact W.below.size, fun k hk => ?_⟩, fun c x e => ?_, fun c B' o' N' e => ?_, fun c x B' o' N' e m => ?_, fun c c' o1 o2 B' x y z t e e' m m' => ?_, fun B' o' v e => ?_⟩
  · rw [putBlock_get _ _ _ _ b2, if_neg (by omega)]; exact W.below.block k hk
  · obtain ⟨y, hy⟩ := hex _ _ e; exact W.live _ _ hy
  · rw [putBlock_size]; exact W.mapped _ _ _ _ e
  · rcases hk c x e with ⟨rfl, rfl⟩ | ⟨hc, hx⟩
    · rw [hm] at m; cases m
      exact ⟨q, by rw [putBlock_get _ _ _ _ b2, if_pos rfl], hr⟩
    · obtain ⟨p, h1, h2⟩ := W.objs _ _ _ _ _ hx m
      refine ⟨p, ?_, h2⟩
      rw [putBlock_get _ _ _ _ b2, if_neg ?_]
      · exact h1
      · intro e'; subst e'; exact hc (W.inj _ _ _ _ _ _ _ _ _ hx hb m hm)
  · obtain ⟨y, hy⟩ := hex _ _ e
    obtain ⟨y', hy'⟩ := hex _ _ e'
    exact W.inj _ _ _ _ _ _ _ _ _ hy hy' m m'
  · obtain ⟨h1, _, h2⟩ := W.imm _ _ _ e
    have hne : B' ≠ B := fun q => by subst q; exact h2 _ _ _ _ hb hm
    refine ⟨by rw [cell?_eq (w := w)]; exact h1; rw [putBlock_get _ _ _ _ b2, if_neg hne], rfl, fun c x o'' N' e' m => ?_⟩
    obtain ⟨y, hy⟩ := hex _ _ e'
    exact h2 _ _ _ _ hy m

/-- A new abstract block takes over a block of the world that no other one has. -/
theorem WRel.take (W : WRel μ I w0 h w) {b B o N : Nat} {ob : AObj} {q : Obj} (hb : h.get b = some ob) (hm : μ b = none) (b1 : w0.heap.size ≤ B) (b2 : B < w.heap.size)
    (hfree : ∀ c x o' N', h.get c = some x → μ c ≠ some (B, o', N')) (himm : ∀ o' v, I B o' ≠ some v) (hr : ORel (upd μ b (B, o, N)) I ob o N q) :
    WRel (upd μ b (B, o, N)) I w0 h (w.putBlock B q) := by
  have hx : Ext μ (upd μ b (B, o, N)) I I := .upd hm
  refine ⟨⟨W.below.os, W.below.tape, W.below.output, by rw [putBlock_size]; exact W.below.size, fun k hk => ?_⟩, W.live, fun c B' o' N' e => ?_, fun c x B' o' N' e m => ?_, fun c c' o1 o2 B' x y z t e e' m m' => ?_, fun B' o' v e => ?_⟩
  · rw [putBlock_get _ _ _ _ b2, if_neg (by omega)]; exact W.below.block k hk
  · rw [putBlock_size]
    by_cases hc : c = b
    · subst hc; rw [upd_self] at e; cases e; exact ⟨b1, b2, W.live _ _ hb⟩
    · rw [upd_ne _ _ hc] at e; exact W.mapped _ _ _ _ e
  · by_cases hc : c = b
    · subst hc; rw [upd_self] at m; cases m; rw [hb] at e; cases e
      exact ⟨q, by rw [putBlock_get _ _ _ _ b2, if_pos rfl], hr⟩
    · rw [upd_ne _ _ hc] at m
      obtain ⟨p, h1, h2⟩ := W.objs _ _ _ _ _ e m
      refine ⟨p, ?_, h2.mono hx⟩
      rw [putBlock_get _ _ _ _ b2, if_neg ?_]
      · exact h1
      · intro e'; subst e'; exact hfree _ _ _ _ e m
  · by_cases hc : c = b
    · by_cases hc' : c' = b
      · rw [hc, hc']
      · subst hc; rw [upd_self] at m; cases m
        rw [upd_ne _ _ hc'] at m'
        exact (hfree _ _ _ _ e' m').elim
    · rw [upd_ne _ _ hc] at m
      by_cases hc' : c' = b
      · subst hc'; rw [upd_self] at m'; cases m'
        exact (hfree _ _ _ _ e m).elim
      · rw [upd_ne _ _ hc'] at m'
        exact W.inj _ _ _ _ _ _ _ _ _ e e' m m'
  · obtain ⟨h1, _, h2⟩ := W.imm _ _ _ e
    have hne : B' ≠ B := fun q => by subst q; exact himm _ _ e
    refine ⟨by rw [cell?_eq (w := w)]; exact h1; rw [putBlock_get _ _ _ _ b2, if_neg hne], rfl, fun c x o'' N' e' m => ?_⟩
    by_cases hc : c = b
    · subst hc; rw [upd_self] at m; cases m; exact hne rfl
    · rw [upd_ne _ _ hc] at m; exact h2 _ _ _ _ e' m

/-! ### Stores -/
theorem modify_eq (w : World) (B : Nat) (x : Obj) (f : Obj → Obj) (hx : w.heap[B]? = some x) : w.heap.modify B f = w.heap.setIfInBounds B (f x) := by
  apply Array.ext_getElem?
  intro i
  rw [Array.getElem?_modify, Array.getElem?_setIfInBounds]
  by_cases e : B = i
  · subst e
    obtain ⟨h1, h2⟩ := Array.getElem?_eq_some_iff.1 hx
    simp [h1, h2]
  · simp [e]

theorem setCell_put (w : World) {B o : Nat} {c : Array Value} {e : TypeId} {fr : Nat × Nat} (hx : w.heap[B]? = some (.cells c e fr)) (v : Value) :
    w.setCell ⟨B, o, none⟩ v = w.putBlock B (.cells (c.setIfInBounds o v) e fr) := by
  unfold World.setCell World.putBlock
  simp only [modify_eq w B _ _ hx]
  rfl

theorem putBlock_put (w : World) (B : Nat) (x y : Obj) : (w.putBlock B x).putBlock B y = w.putBlock B y := by
  simp [World.putBlock]

theorem putBlock_same (w : World) {B : Nat} {x : Obj} (hx : w.heap[B]? = some x) : w.putBlock B x = w := by
  obtain ⟨h2, h3⟩ := Array.getElem?_eq_some_iff.1 hx
  have : w.heap.setIfInBounds B x = w.heap := by
    apply Array.ext_getElem?
    intro k
    rw [Array.getElem?_setIfInBounds]
    split
    · rename_i q; subst q; simp [h2, h3]
    · rfl
  unfold World.putBlock
  rw [this]

theorem storeCells_run {B o : Nat} {e : TypeId} : ∀ (vs : List Value) (i : Nat) (c : Array Value) (w : World), w.heap[B]? = some (.cells c e (0, 0)) → o + i + vs.length ≤ c.size → (∀ v ∈ vs, v.oneCell' = true) →
    ∃ c' : Array Value, (storeCells ⟨B, o, none⟩ vs i).run P w = .ok () (w.putBlock B (.cells c' e (0, 0))) ∧ c'.toList = c.toList.take (o + i) ++ vs ++ c.toList.drop (o + i + vs.length) := by
  intro vs
  induction vs with
  | nil =>
    intro i c w hx hl h1
    refine ⟨c, ?_, by simp⟩
    simp only [storeCells, Sem.run_pure]
    rw [putBlock_same w hx]
  | cons v vs ih =>
    intro i c w hx hl h1
    have hB := (Array.getElem?_eq_some_iff.1 hx).1
    simp only [List.length_cons] at hl
    have hcell : ∃ u, w.cell? ⟨B, o + i, none⟩ = some u := by
      have : o + i < c.size := by omega
      exact ⟨c[o + i], by simp [World.cell?, hx, this]⟩
    obtain ⟨u, hu⟩ := hcell
    have hfr : w.frozen? ⟨B, o + i, none⟩ = false := by simp [World.frozen?, hx]
    have hx' : (w.putBlock B (.cells (c.setIfInBounds (o + i) v) e (0, 0))).heap[B]? = some (.cells (c.setIfInBounds (o + i) v) e (0, 0)) := by rw [putBlock_get _ _ _ _ hB, if_pos rfl]
    obtain ⟨c', h2, h3⟩ := ih (i + 1) (c.setIfInBounds (o + i) v) _ hx' (by simp; omega) (fun x hx => h1 x (by simp [hx]))
    refine ⟨c', ?_, ?_⟩
    · have hv := h1 v (by simp)
      simp only [storeCells, Sem.run_bind, add_none]
      rw [run_store P w _ _ _ hv, hu]
      simp only [hfr, Bool.false_eq_true, if_false, Result.andThen_ok]
      rw [setCell_put w hx, h2, putBlock_put]
    · rw [h3]
      simp only [Array.toList_setIfInBounds]
      have hlt : o + i < c.toList.length := by simp; omega
      rw [show o + (i + 1) = o + i + 1 from by omega]
      rw [List.take_succ_eq_append_getElem (by simp; omega)]
      simp only [List.getElem_set_self, List.append_assoc, List.cons_append, List.nil_append, List.length_cons]
      rw [List.take_set_of_le (Nat.le_refl _), List.drop_set_of_lt (by omega)]
      rw [show o + i + 1 + vs.length = o + i + (vs.length + 1) from by omega]

end
end Go.Abs
