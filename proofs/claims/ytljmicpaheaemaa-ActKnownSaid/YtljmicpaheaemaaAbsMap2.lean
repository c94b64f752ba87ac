/- Maps: an entry is written. -/
import Derived.Test.YtljmicpaheaemaaAbsAppend
namespace Go.Abs
set_option linter.unusedSimpArgs false
set_option linter.unusedVariables false
open Go.RowKit (Below)
section
variable {P : Program} {μ : Mu} {I : Imm} {w0 w : World} {h h' : Heap}

theorem modE_rel {k v : AV} {uk uv : Value} (rk : VRel μ I k uk) (rv : VRel μ I v uv) : ∀ (i : Nat) {es : List AEntry} {ms : List MapEntry}, ERels μ I es ms → ERels μ I (modE i k v es) (ms.modify i fun e => { e with key := uk, val := uv })
  | i, _, _, .nil => by cases i <;> exact .nil
  | 0, _, _, .cons h1 h2 h3 h4 => by
    simp only [modE, List.modify_zero_cons]
    exact .cons rk rv h3 h4
  | i + 1, _, _, .cons h1 h2 h3 h4 => by
    simp only [modE, List.modify_succ_cons]
    exact .cons h1 h2 h3 (modE_rel rk rv i h4)

theorem ERels.push {es : List AEntry} {ms : List MapEntry} {a : AEntry} {c : MapEntry} (r : ERels μ I es ms) (h1 : VRel μ I a.key c.key) (h2 : VRel μ I a.val c.val) (h3 : a.born = c.born) : ERels μ I (es ++ [a]) (ms ++ [c]) := by
  induction r with
  | nil => exact .cons h1 h2 h3 .nil
  | cons a b d _ ih => exact .cons a b d ih

theorem all2_run {f : AV → AV → Bool} {g : Value → Value → Bool} (hf : ∀ a b u v, f a b = true → VRel μ I a u → VRel μ I b v → g u v = true) : ∀ {xs ys : List AV} {us vs : List Value}, all2 f xs ys = true → VRels μ I xs us → VRels μ I ys vs → us.length = vs.length ∧ ((us.zip vs).all fun p => g p.1 p.2) = true
  | [], [], _, _, _, .nil, .nil => ⟨rfl, rfl⟩
  | [], _ :: _, _, _, e, _, _ => by simp [all2] at e
  | _ :: _, [], _, _, e, _, _ => by simp [all2] at e
  | x :: xs, y :: ys, _, _, e, .cons a b, .cons c d => by
    simp only [all2, Bool.and_eq_true] at e
    obtain ⟨i1, i2⟩ := all2_run hf e.2 b d
    exact ⟨by simp [i1], by simp only [List.zip_cons_cons, List.all_cons, hf _ _ _ _ e.1 a c, i2, Bool.and_self]⟩

theorem sameA_run : ∀ (n : Nat) (a b : AV) (u v : Value), sameA n a b = true → VRel μ I a u → VRel μ I b v → Instr.sameBits n u v = true
  | 0, _, _, _, _, e, _, _ => by simp [sameA] at e
  | n + 1, a, b, u, v, e, r, q => by
    unfold sameA at e
    split at e
    · cases r; cases q; simpa [Instr.sameBits] using e
    · cases r; cases q; simpa [Instr.sameBits] using e
    · cases r; cases q; simpa [Instr.sameBits, beq_bytes] using e
    · cases r with | agg r => ?_
      cases q with | agg q => ?_
      have hl := all2_run (sameA_run n) e r q
      simp only [Array.length_toList] at hl
      simp only [Instr.sameBits, Bool.and_eq_true, beq_iff_eq]
      exact hl
    · cases e

theorem amapUpdate_run (W : WRel μ I w0 h w) {t : TypeId} {m k v : AV} {um uk uv : Value} (e : amapUpdate P h t m k v = some h') (rm : VRel μ I m um) (rk : VRel μ I k uk) (rv : VRel μ I v uv) :
    ∃ w', (Instr.mapUpdate t um uk uv).run P w = .ok () w' ∧ Goes P μ μ I w0 h h' w' := by
  unfold amapUpdate at e
  split at e
  case h_2 => cases e
  rename_i kt d et hmo
  obtain ⟨ht, hk⟩ := mapOf_spec hmo
  split at e
  case h_2 => cases e
  rename_i b
  cases rm with | map hmu => ?_
  rename_i B o N
  split at e
  case h_2 => cases e
  rename_i es ck hb
  obtain ⟨hok, e⟩ := cond_some e
  obtain ⟨obj, ho, hr⟩ := W.objs _ _ _ _ _ hb hmu
  cases hr with | map hes => ?_
  rename_i l
  have hg : (getObj B).run P w = .ok (.map l ck) w := by simp [getObj, Sem.run, ho]
  have hck : (Instr.checkKey false 10000 kt uk).run P w = .ok () w := keyOk_run w 10000 hok rk
  have upd : ∀ (es' : List AEntry) (l' : Array MapEntry) (ck' : Nat), ERels μ I es' l'.toList → Goes P μ μ I w0 h (h.set b (.map es' ck')) (w.putBlock B (.map l' ck')) := fun es' l' ck' hE =>
    ⟨.refl _ _, W.update hb hmu (.map hE), Nat.le_refl _, fun c hc ec => ⟨ec, by rw [Heap.get_set, if_neg (fun q => by subst q; rw [hmu] at ec; cases ec)]⟩⟩
  cases hf : findE P kt d k es 0 with
  | none => rw [hf] at e; cases e
  | some r =>
    rw [hf] at e
    obtain ⟨p, h1, h2⟩ := findKey_run hk rk w hf hes
    cases h2 with
    | none =>
      simp at e
      subst e
      refine ⟨_, ?_, upd _ (l.push { key := uk, val := uv, born := ck }) (ck + 1) (by simpa using hes.push rk rv rfl)⟩
      simp [Instr.mapUpdate, run_underlying ht, hg, hck, h1, setObj, Sem.run, ho]
      rfl
    | some hm h3 h4 h5 h6 =>
      rename_i i old vold u' x' mm
      simp at e
      obtain ⟨hs, e⟩ := cond_some e
      simp at e
      subst e
      have hsb := sameA_run 10000 _ _ _ _ hs h5 rk
      have hli : l[i]? = some mm := by rw [← Array.getElem?_toList]; exact hm
      refine ⟨_, ?_, upd _ (l.modify i fun e => { e with key := uk, val := uv }) ck (by rw [Array.toList_modify]; exact modE_rel rk rv i hes)⟩
      simp [Instr.mapUpdate, run_underlying ht, hg, hck, h1, hli, h3, Instr.keyThatStays, hsb, setObj, Sem.run, ho]
      rfl
end
end Go.Abs
