/- Frames: how they stand to the model's. -/
import Derived.Test.YtljmicpaheaemaaAbsPlan
import Derived.AtR
import Derived.RangeFuncRecord
namespace Go.Abs
open Go.RowKit (Below)
set_option linter.unusedSimpArgs false
set_option linter.unusedVariables false

/-! ### Orders that respect a region's edges -/
structure Lin (ops : Array Oper) (L : List Nat) : Prop where
  nodup : L.Nodup
  lt : ∀ i ∈ L, i < ops.size
  ord : ∀ a i b, L = a ++ i :: b → ∀ o, ops[i]? = some o → ∀ p ∈ predsOf o, p ∈ a

theorem Lin.anc {ops : Array Oper} {L : List Nat} (h : Lin ops L) {j i : Nat} (c : Anc ops j i) : ∀ {a b : List Nat}, L = a ++ i :: b → j ∈ a := by
  induction c with
  | base ho hp => intro a b e; exact h.ord a _ b e _ ho _ hp
  | step _ ho hp ih =>
    rename_i k i o _
    intro a b e
    have hk := h.ord a _ b e _ ho _ hp
    obtain ⟨a1, a2, rfl⟩ := List.append_of_mem hk
    have := ih (a := a1) (b := a2 ++ i :: b) (by rw [e]; simp)
    simp [this]

/-- In such an order nothing comes behind what needs it. -/
theorem Lin.not_anc {ops : Array Oper} {L : List Nat} (h : Lin ops L) {a b : List Nat} {i j : Nat} (e : L = a ++ i :: b) (hj : j ∈ b) : ¬ Anc ops j i := by
  intro hc
  have h1 := h.anc hc e
  have hn := h.nodup
  rw [e, List.nodup_append] at hn
  exact hn.2.2 _ h1 _ (List.mem_cons_of_mem _ hj) rfl

theorem linGo {ops : Array Oper} (hp : ∀ i o p, ops[i]? = some o → p ∈ predsOf o → p < i) : ∀ (fuel t : Nat) (listed : Array Bool) (acc : List Nat),
    listed.size = ops.size → acc.length + fuel = ops.size → acc.Nodup → (∀ i, i < ops.size → (listed.getD i false = true ↔ i ∈ acc)) → (∀ i ∈ acc, i < ops.size) →
    (∀ a i b, acc.reverse = a ++ i :: b → ∀ o, ops[i]? = some o → ∀ p ∈ predsOf o, p ∈ a) →
    Lin ops (Region.linearise.go .any ops fuel t listed acc) ∧ (Region.linearise.go .any ops fuel t listed acc).length = ops.size := by
  intro fuel
  induction fuel with
  | zero =>
    intro t listed acc hs hl hn hm hlt ho
    simp only [Region.linearise.go]
    exact ⟨⟨by unfold List.Nodup; rw [List.pairwise_reverse]; exact hn.imp Ne.symm, fun i hi => hlt i (by simpa using hi), ho⟩, by simp; omega⟩
  | succ fuel ih =>
    intro t listed acc hs hl hn hm hlt ho
    simp only [Region.linearise.go]
    have getD_eq : ∀ i, i < ops.size → listed.getD i true = listed.getD i false := by
      intro i hi
      simp [Array.getD_eq_getD_getElem?, hs, hi]
    have hready : ∀ i, i ∈ ((List.range ops.size).filter fun i => !listed.getD i true && ((ops[i]?).map (·.after.all fun e => !Region.binds .any e || listed.getD e.on false)).getD false) ↔
        i < ops.size ∧ i ∉ acc ∧ ∀ o, ops[i]? = some o → ∀ p ∈ predsOf o, p ∈ acc := by
      intro i
      rw [List.mem_filter, List.mem_range, Bool.and_eq_true]
      constructor
      · rintro ⟨h1, h2, h3⟩
        rw [getD_eq i h1] at h2
        refine ⟨h1, fun hi => ?_, fun o hop p hpp => ?_⟩
        · rw [(hm i h1).2 hi] at h2; cases h2
        · rw [hop] at h3
          simp only [Option.map_some, Option.getD_some] at h3
          unfold predsOf at hpp
          rw [List.mem_filterMap] at hpp
          obtain ⟨e, he, hq⟩ := hpp
          rw [Array.all_eq_true'] at h3
          have := h3 e (by simpa using he)
          split at hq
          · rename_i hb
            simp at hq
            subst hq
            simp only [hb, Bool.not_true, Bool.false_or] at this
            have hlt' := hp i o e.on hop (by unfold predsOf; rw [List.mem_filterMap]; exact ⟨e, he, by simp [hb]⟩)
            exact (hm _ (by omega)).1 this
          · cases hq
      · rintro ⟨h1, h2, h3⟩
        refine ⟨h1, ?_, ?_⟩
        · rw [getD_eq i h1]
          cases hq : listed.getD i false with
          | true => exact absurd ((hm i h1).1 hq) h2
          | false => rfl
        · have : ops[i]? = some ops[i] := by simp [h1]
          rw [this]
          simp only [Option.map_some, Option.getD_some]
          rw [Array.all_eq_true']
          intro e he
          cases hb : Region.binds .any e with
          | false => rfl
          | true =>
            have hpp : e.on ∈ predsOf ops[i] := by unfold predsOf; rw [List.mem_filterMap]; exact ⟨e, by simpa using he, by simp [hb]⟩
            have hlt' := hp i _ e.on this hpp
            simp only [Bool.not_true, Bool.false_or]
            exact (hm _ (by omega)).2 (h3 _ this _ hpp)
    generalize hrs : ((List.range ops.size).filter fun i => !listed.getD i true && ((ops[i]?).map (·.after.all fun e => !Region.binds .any e || listed.getD e.on false)).getD false) = rs at hready
    -- something is ready
    have hne : rs ≠ [] := by
      intro h0
      -- the least number that is not listed
      have : ∃ i, i < ops.size ∧ i ∉ acc := by
        refine Decidable.byContradiction fun hno => ?_
        have hall : ∀ i, i < ops.size → i ∈ acc := fun i hi => Decidable.byContradiction fun hq => hno ⟨i, hi, hq⟩
        have h1 : (List.range ops.size).length ≤ acc.length := by
          have hsub : ∀ x ∈ List.range ops.size, x ∈ acc := fun x hx => hall x (List.mem_range.1 hx)
          exact (List.nodup_range.length_le_of_subset hsub)
        simp at h1
        omega
      obtain ⟨i, hi, hia⟩ := this
      have key : ∀ n i, i ≤ n → i < ops.size → i ∉ acc → ∃ j, j ∈ rs := by
        intro n
        induction n with
        | zero =>
          intro i hle hi hia
          have : i = 0 := by omega
          subst this
          exact ⟨0, (hready 0).2 ⟨hi, hia, fun o hop p hpp => by have := hp 0 o p hop hpp; omega⟩⟩
        | succ n ihn =>
          intro i hle hi hia
          by_cases hall : ∀ o, ops[i]? = some o → ∀ p ∈ predsOf o, p ∈ acc
          · exact ⟨i, (hready i).2 ⟨hi, hia, hall⟩⟩
          · have : ∃ p, p < i ∧ p ∉ acc := by
              refine Classical.byContradiction fun hno => hall fun o hop p hpp => Classical.byContradiction fun hq => hno ⟨p, hp i o p hop hpp, hq⟩
            obtain ⟨p, hp1, hp2⟩ := this
            exact ihn p (by omega) (by omega) hp2
      obtain ⟨j, hj⟩ := key i i (Nat.le_refl _) hi hia
      rw [h0] at hj
      cases hj
    have hpos : 0 < rs.length := List.length_pos_iff.2 hne
    have hlt2 : t % rs.length < rs.length := Nat.mod_lt _ hpos
    have hget : rs[t % rs.length]? = some (rs[t % rs.length]'hlt2) := List.getElem?_eq_getElem hlt2
    rw [hget]
    simp only
    generalize hi0 : rs[t % rs.length]'hlt2 = i
    have hi : i ∈ rs := by rw [← hi0]; exact List.getElem_mem _
    obtain ⟨h1, h2, h3⟩ := (hready i).1 hi
    refine ih _ _ _ (by simpa using hs) (by simp; omega) (List.nodup_cons.2 ⟨h2, hn⟩) ?_ ?_ ?_
    · intro k hk
      by_cases hki : i = k
      · subst hki
        simp [Array.getD_eq_getD_getElem?, hs, h1]
      · have : (listed.setIfInBounds i true).getD k false = listed.getD k false := by
          simp [Array.getD_eq_getD_getElem?, Array.getElem?_setIfInBounds_ne hki]
        rw [this, hm k hk]
        simp [Ne.symm hki]
    · intro k hk
      rcases List.mem_cons.1 hk with rfl | hk
      · exact h1
      · exact hlt k hk
    · intro a k b e o hop p hpp
      rw [List.reverse_cons] at e
      rcases List.append_eq_append_iff.1 e with ⟨c, hc1, hc2⟩ | ⟨c, hc1, hc2⟩
      · -- a = acc.reverse ++ c
        cases c with
        | nil =>
          simp at hc2
          obtain ⟨rfl, rfl⟩ := hc2
          subst hc1
          have := h3 o hop p hpp
          simpa using this
        | cons x xs => simp at hc2
      · cases c with
        | nil =>
          simp at hc1 hc2
          obtain ⟨rfl, rfl⟩ := hc2
          have := h3 o hop p hpp
          rw [← hc1]
          simpa using this
        | cons x xs =>
          simp only [List.cons_append, List.cons.injEq] at hc2
          obtain ⟨rfl, rfl⟩ := hc2
          exact ho a k xs hc1 o hop p hpp

theorem lin_schedule {ops : Array Oper} (hp : ∀ i o p, ops[i]? = some o → p ∈ predsOf o → p < i) (t : Nat) :
    Lin ops (Region.schedule true ops t) ∧ (Region.schedule true ops t).length = ops.size := by
  simp only [Region.schedule, Bool.true_or, if_true, Region.linearise]
  exact linGo hp ops.size t (Array.replicate ops.size false) [] (by simp) (by simp) List.nodup_nil (fun i hi => by simp [Array.getD_eq_getD_getElem?, hi]) (by simp) (by simp)

end Go.Abs
