/- What a claim's row asks, from a run of the abstract machine. -/
import Derived.Test.YtljmicpaheaemaaAbsCut
import Derived.ChangeSame
import Derived.RowKit3
namespace Go.Abs
open Go.ChangeShapes Go.WideShapes
open Go.RowKit (Below)

theorem post_of_below {H : Type} {enc : TypeId × Value → H} {P : Program} {f : Func} {s : ChangeSpec} {apart fresh handsOn again : Bool} {W W' : World} {args : Array Value} {v : Value} {ds gs : List (DataW H)} {before pa pv : List MemPlace}
    (hW : DataW.Whole enc P f.params.toList s.vars apart W args.toList ds gs before)
    (hres : ∀ (b : Nat) (sp : Nat → Bool) (hd : Bool), DataW.TrodAll enc P W' b sp hd f.resultTypes.toList (v.resultList f.resultTypes.size) (s.fn H (ds ++ gs)).results [])
    (hargs : ∀ sp : Nat → Bool, (∀ p ∈ before, sp p.block = true) → DataW.TrodAll enc P W' 0 sp true f.params.toList args.toList (s.fn H (ds ++ gs)).args pa)
    (hvars : ∀ sp : Nat → Bool, (∀ p ∈ before, sp p.block = true) → DataW.TrodVars enc P W' sp s.vars (s.fn H (ds ++ gs)).vars pv)
    (hps : before = pa ++ pv) (hb : Below W.heap.size W W')
    (hok : ∀ (j : Nat) (t : TypeId) (r : Value), f.resultTypes[j]? = some t → (v.resultList f.resultTypes.size)[j]? = some r → Value.okWide P W' .any 0 t r) :
    s.post enc P f apart fresh handsOn again W args v W' := by
  have hold : ∀ p ∈ before, (fun b => decide (b < W.heap.size)) p.block = true := fun p hp => by simpa using hW.lt p hp
  refine ⟨ds, gs, before, [], pa, pv, hW, hres _ _ _, hargs _ hold, hvars _ hold, World.keptBut_mono (fun p hp => ⟨hp, ?_⟩) (hb.frame (· ∈ before)), fun _ => ?_⟩
  · rw [hps, List.mem_append] at hp
    exact Or.inr hp
  · have hlt := hW.lt
    obtain ⟨_, _, _, _, _, hz, hn⟩ := hW
    refine ⟨hok, _, _, ([] ++ pa) ++ pv, ⟨[] ++ pa, pv, trodAll_append (hargs _ (fun _ _ => rfl)) (hres _ _ _), hvars _ (fun _ _ => rfl), rfl, ?_, ?_⟩, ?_⟩
    · intro b off hp
      have hp' : MemPlace.cell b off ∈ before := by rw [hps]; simpa using hp
      rw [hb.frozen (p := ⟨b, off, none⟩) (hlt _ hp')]
      exact hz b off hp'
    · intro ha
      have := hn ha
      rw [hps] at this
      simpa using this
    · intro p hp _
      rw [hps]
      simpa using hp

/-- A closed law: the machine comes to 'true'. -/
theorem calls_true {P : Program} {f : FuncId} {m0 m : AMach} (h0 : begin_ P f [] = some m0) (h1 : Leads P m0 m) (h2 : done P f m = some (.bool true)) (w : World) :
    Calls P f #[] w fun e w' => e = .returned (.bool true) ∧ Below w.heap.size w w' :=
  (calls_of_leads (I := fun _ _ => none) (as_ := #[]) h0 h1 h2 w (fun _ _ _ e => by cases e) (by exact .nil)).mono fun e w' ⟨μ, u, he, hu, hb⟩ => by
    subst he
    cases hu
    exact ⟨rfl, hb⟩
theorem leads_last {P : Program} (K : ProgOk P) {pl : Plans} {f : FuncId} {n : Nat} {m : AMach} {v : AV} (e : (arunF P pl n m).bind (done P f) = some v) : ∃ m', Leads P m m' ∧ done P f m' = some v := by
  cases h : arunF P pl n m with
  | none => rw [h] at e; cases e
  | some x => rw [h] at e; exact ⟨x, leads_run K h, e⟩
end Go.Abs
