import Derived.Test.YtljmicpaheaemaaAbsHeavy
namespace Go.Abs
set_option linter.unusedSimpArgs false
set_option linter.unusedVariables false
open Go.RowKit (Below)
section
variable {P : Program} {μ : Mu} {I : Imm} {w0 w : World} {h : Heap}

/-- What an operation does to the heaps, when it has come to its end. -/
structure Goes (P : Program) (μ μ' : Mu) (I : Imm) (w0 : World) (h h' : Heap) (w' : World) : Prop where
  ext : Ext μ μ' I I
  rel : WRel μ' I w0 h' w'
  next : h.next ≤ h'.next
  keep : ∀ b, b < h.next → μ b = none → μ' b = none ∧ h'.get b = h.get b

theorem Goes.refl (W : WRel μ I w0 h w) : Goes P μ μ I w0 h h w := ⟨.refl _ _, W, Nat.le_refl _, fun _ _ e => ⟨e, rfl⟩⟩

theorem Goes.trans {μ1 μ2 μ3 : Mu} {h1 h2 h3 : Heap} {w2 w3 : World} (a : Goes P μ1 μ2 I w0 h1 h2 w2) (b : Goes P μ2 μ3 I w0 h2 h3 w3) : Goes P μ1 μ3 I w0 h1 h3 w3 :=
  ⟨a.ext.trans b.ext, b.rel, Nat.le_trans a.next b.next, fun c hc e => by
    obtain ⟨p, q⟩ := a.keep c hc e
    obtain ⟨p', q'⟩ := b.keep c (Nat.lt_of_lt_of_le hc a.next) p
    exact ⟨p', q'.trans q⟩⟩

theorem goes_push (W : WRel μ I w0 h w) {ob : AObj} {o : Obj} {N : Nat} (hr : ORel (upd μ h.next (w.heap.size, 0, N)) I ob 0 N o) :
    Goes P μ (upd μ h.next (w.heap.size, 0, N)) I w0 h (h.new ob) (w.pushBlock o) := by
  have hn := W.next_none
  refine ⟨.upd hn, (W.new ob).push (by rw [Heap.get_new, if_pos rfl]) hn hr, Nat.le_succ _, fun b hb e => ?_⟩
  have : b ≠ h.next := by omega
  exact ⟨by rw [upd_ne _ _ this]; exact e, by rw [Heap.get_new, if_neg this]⟩

theorem mayMatch (d : TypeDesc) : (match d with | .int _ => true | _ => false) = true ∨ (match d with | .int _ => true | _ => false) = false := by
  cases d <;> simp

/-- The new row that an append lays. -/
theorem newRow_cells {el : TypeId} {old new : List AV} {us vs rest : Array Value} {N : Nat} (r1 : VRels μ I old us.toList) (r2 : VRels μ I new vs.toList) (hN : (us ++ vs ++ rest).size = N) :
    ORel μ I (.cells (old ++ new)) 0 N (.cells (us ++ vs ++ rest) el (0, 0)) := by
  have l1 := r1.length
  have l2 := r2.length
  simp only [Array.length_toList] at l1 l2
  simp only [Array.size_append] at hN
  refine .cells (by simp only [Array.size_append]; exact hN) (by simp; omega) fun i a e => ?_
  obtain ⟨v, hv, hr⟩ := (r1.append r2).get e
  refine ⟨v, ?_, hr⟩
  have hlt := (List.getElem?_eq_some_iff.1 hv).1
  rw [Nat.zero_add, ← Array.getElem?_toList]
  simp only [Array.toList_append]
  rw [List.getElem?_append_left (by simpa using hlt)]
  exact hv

theorem elems_slice {h : Heap} {sz0 b off len sz n : Nat} {l : List AV} (e : elems h sz0 (.slice b off len sz) = some (n, l)) :
    n = len ∧ sz0 = sz ∧ ∃ cs, h.get b = some (.cells cs) ∧ takeN (len * sz) (cs.drop off) = some l := by
  simp only [elems] at e
  split at e
  · rename_i cs hb
    obtain ⟨h1, e⟩ := cond_some e
    cases ht : takeN (len * sz) (cs.drop off) with
    | none => rw [ht] at e; simp at e
    | some q => rw [ht] at e; simp at e; exact ⟨e.1.symm, (beq_tt h1).symm, cs, hb, by rw [ht, e.2]⟩
  · cases e

/-- append, what is appended being known. -/
theorem append_core (W : WRel μ I w0 h w) {el : TypeId} {i : TypeInfo} {zv : Value} (hi : P.info? el = some i) (hz : (∀ w, (zeroValue el).run P w = .ok zv w)) (hzs : zv.cells.size = i.size)
    {s v : AV} {s' : Value} {n : Nat} {new : List AV} {h' : Heap} (zeros : Bool) (appended : Sem (Array Value)) (x : Value)
    (hnew : ∀ k, ∃ vs : List Value, appended.run P { w with drawn := k } = .ok vs.toArray { w with drawn := k } ∧ VRels μ I new vs) (hnl : new.length = n * i.size)
    (e : appendTo h i.size i.bytes s n new = some (v, h')) (r : VRel μ I s s') :
    ∃ (base : Option Addr) (sLen sCap : Nat), s' = .slice base sLen sCap ∧ ∃ μ' u w',
      (do
        let need := sLen + n
        if need ≤ sCap then
          let new ← appended
          if let some a := base then storeCells (a.add (sLen * i.size)) new.toList
          pure (.slice base need sCap)
        else
          if (need : Int) > IntKind.i64.max ∧ (zeros = true ∨ (← typeInfo el).bytes = 0) then runtimePanic (.error "growslice: len out of range")
          if Builtin.nextslicecap need sCap * (← typeInfo el).bytes > 2 ^ 48 then (if zeros then runtimePanic (.error "growslice: len out of range") else do
            if !(← Builtin.mayShare i.size sLen n base x) then mark .noRoom
            unsupported (.resourceLimit "append: a slice or a string whose bytes no memory bears"))
          let newCap ← choose (.appendCap need sCap el)
          askRoom (newCap * (← typeInfo el).bytes)
          let old ← Builtin.firstCells i.size sLen s'
          let new ← appended
          let rest := Builtin.zeroCells (← zeroValue el).cells (newCap - need)
          pure (.slice (some (← newRow el (old ++ new ++ rest))) need newCap) : Sem Value).run P w = .ok u w' ∧ Goes P μ μ' I w0 h h' w' ∧ VRel μ' I v u := by
  have grow : ∀ (base : Option Addr) (sLen sCap : Nat) (hh : Heap) (old : List AV), sCap < sLen + n → (2 * (sLen + n) + 1024) * i.bytes ≤ 140737488355328 → sLen + n ≤ 2305843009213693952 →
      WRel μ I w0 hh w → (∃ us : List Value, (Builtin.firstCells i.size sLen s').run P { w with drawn := w.drawn + 1 } = .ok us.toArray { w with drawn := w.drawn + 1 } ∧ VRels μ I old us) → old.length = sLen * i.size → 
      ∃ μ' u w', (do
          if (sLen + n : Int) > IntKind.i64.max ∧ (zeros = true ∨ (← typeInfo el).bytes = 0) then runtimePanic (.error "growslice: len out of range")
          if Builtin.nextslicecap (sLen + n) sCap * (← typeInfo el).bytes > 2 ^ 48 then (if zeros then runtimePanic (.error "growslice: len out of range") else do
            if !(← Builtin.mayShare i.size sLen n base x) then mark .noRoom
            unsupported (.resourceLimit "append: a slice or a string whose bytes no memory bears"))
          let newCap ← choose (.appendCap (sLen + n) sCap el)
          askRoom (newCap * (← typeInfo el).bytes)
          let old ← Builtin.firstCells i.size sLen s'
          let new ← appended
          let rest := Builtin.zeroCells (← zeroValue el).cells (newCap - (sLen + n))
          pure (.slice (some (← newRow el (old ++ new ++ rest))) (sLen + n) newCap) : Sem Value).run P w = .ok u w' ∧
        Goes P μ μ' I w0 hh (hh.new (.cells (old ++ new))) w' ∧ VRel μ' I (.slice hh.next 0 (sLen + n) i.size) u := by
    intro base sLen sCap hh old hc hb hl W ⟨us, hus1, hus2⟩ hol
    obtain ⟨vs, hvs⟩ := hnew (w.drawn + 1)
    have W1 := W.drew (w.drawn + 1)
    have hcap : ¬ (281474976710656 < Builtin.nextslicecap (sLen + n) sCap * i.bytes) := by
      have h1 := nextslicecap_le (sLen + n) sCap hc
      have h2 := Nat.mul_le_mul_right i.bytes h1
      omega
    have hmax : ¬ (IntKind.i64.max < (sLen : Int) + (n : Int)) := by
      have : IntKind.i64.max = 9223372036854775807 := by decide
      omega
    let newCap := (sLen + n) + w.tape w.drawn (.appendCap (sLen + n) sCap el) % (2 ^ 63 - (sLen + n))
    have hge : sLen + n ≤ newCap := Nat.le_add_right _ _
    let row := us.toArray ++ vs.toArray ++ Builtin.zeroCells zv.cells (newCap - (sLen + n))
    have l1 := hus2.length
    have l2 := hvs.2.length
    have hrow : row.size = newCap * i.size := by
      simp only [row, Array.size_append, List.size_toArray, zeroCells_size, hzs]
      rw [← l1, ← l2, hol, hnl, ← Nat.add_mul, ← Nat.add_mul]
      congr 1
      omega
    refine ⟨upd μ hh.next (w.heap.size, 0, newCap * i.size), .slice (some ⟨w.heap.size, 0, none⟩) (sLen + n) newCap, ({ w with drawn := w.drawn + 1 } : World).pushBlock (.cells row el (0, 0)), ?_, ?_, ?_⟩
    · have hcap' : ¬ (Builtin.nextslicecap (sLen + n) sCap * i.bytes > 2 ^ 48) := by simpa using hcap
      have hmax' : ¬ ((sLen : Int) + (n : Int) > IntKind.i64.max) := hmax
      simp only [hmax', false_and, if_false]
      simp only [Sem.run_bind, run_typeInfo hi, Result.andThen_ok, hcap', if_false]
      rw [run_choose]
      simp only [Question.forced, Bool.false_eq_true, if_false, Question.cut, Result.andThen_ok, run_askRoom, hus1, hvs.1, hz, newRow, Sem.run_bind, run_newObj, Sem.run_pure]
      rfl
    · have := goes_push (P := P) W1 (ob := .cells (old ++ new)) (o := .cells row el (0, 0)) (N := newCap * i.size) ?_
      · exact this
      · have hx : Ext μ (upd μ hh.next (w.heap.size, 0, newCap * i.size)) I I := .upd W.next_none
        exact newRow_cells (by simpa using hus2.mono hx) (by simpa using hvs.2.mono hx) hrow
    · have := VRel.slice (I := I) (off := 0) (len := sLen + n) (cap := newCap) (sz := i.size) (upd_self μ hh.next (w.heap.size, 0, newCap * i.size)) hge (by omega)
      simpa using this
  unfold appendTo at e
  split at e
  · cases r
    refine ⟨none, 0, 0, rfl, ?_⟩
    cases n with
    | zero =>
      simp at e
      obtain ⟨rfl, rfl⟩ := e
      obtain ⟨vs, hvs⟩ := hnew w.drawn
      exact ⟨μ, .slice none 0 0, w, by simp [hvs.1], .refl W, .nils⟩
    | succ m =>
      simp only at e
      obtain ⟨hc, e⟩ := cond_some e
      simp at e
      obtain ⟨rfl, rfl⟩ := e
      simp only [Bool.and_eq_true] at hc
      obtain ⟨⟨c1, c2⟩, c3⟩ := hc
      have c1 := Nat.le_of_ble_eq_true c1
      have c2 := Nat.le_of_ble_eq_true c2
      obtain ⟨μ', u, w', g1, g2, g3⟩ := grow none 0 0 h [] (by omega) (by simpa using c1) (by omega) W ⟨[], by simp [Builtin.firstCells], .nil⟩ (by simp)
      refine ⟨μ', u, w', ?_, by simpa using g2, by simpa using g3⟩
      have : ¬ (0 + (m + 1) ≤ 0) := by omega
      simp only [this, if_false]
      exact_mod_cast g1
  · rename_i b off len sz
    cases he : elems h i.size (.slice b off len sz) with
    | none => rw [he] at e; cases e
    | some lo =>
      obtain ⟨ln, old⟩ := lo
      rw [he] at e
      simp only at e
      obtain ⟨k1, k2, ⟨ka, kc, k3⟩, k4⟩ := elems_run (P := P) W he r
      obtain ⟨rfl, hsz', cs, hb, ht⟩ := elems_slice he
      subst k3
      refine ⟨ka, ln, kc, rfl, ?_⟩
      cases n with
      | zero =>
        simp at e
        obtain ⟨rfl, rfl⟩ := e
        have hle : ln ≤ kc := by cases r <;> omega
        obtain ⟨vs, hvs⟩ := hnew w.drawn
        have hvs0 : vs = [] := by
          have := hvs.2.length
          simp at hnl
          rw [hnl] at this
          exact List.eq_nil_of_length_eq_zero this.symm
        subst hvs0
        refine ⟨μ, .slice ka ln kc, w, ?_, .refl W, r⟩
        have hle' : ln + 0 ≤ kc := hle
        cases ka with
        | none => simp [hvs.1, hle]
        | some a => simp [hvs.1, hle, storeCells]
      | succ m =>
        simp only at e
        obtain ⟨hc, e⟩ := cond_some e
        simp at e
        obtain ⟨rfl, rfl⟩ := e
        simp only [Bool.and_eq_true] at hc
        obtain ⟨⟨c1, c2⟩, c3⟩ := hc
        have c1 := Nat.le_of_ble_eq_true c1
        have c2 := Nat.le_of_ble_eq_true c2
        have hmu : ∃ x, μ b = some x := by cases r <;> exact ⟨_, by assumption⟩
        have hkill : ∀ {μ' : Mu} {w' : World}, Goes P μ μ' I w0 (h.kill b) ((h.kill b).new (.cells (old ++ new))) w' → Goes P μ μ' I w0 h ((h.kill b).new (.cells (old ++ new))) w' := by
          intro μ' w' g
          refine ⟨g.ext, g.rel, g.next, fun d hd hn => ?_⟩
          obtain ⟨p, q⟩ := g.keep d hd hn
          refine ⟨p, q.trans ?_⟩
          rw [Heap.get_kill, if_neg ?_]
          intro z; subst z; obtain ⟨x, hx⟩ := hmu; rw [hx] at hn; cases hn
        obtain ⟨us, hus⟩ := k4 ln (Nat.le_refl _)
        rw [List.take_of_length_le (by omega)] at hus
        by_cases hroom : ln + (m + 1) ≤ kc
        · -- in place
          cases r with
          | slice0 => omega
          | slice hm h1 h2 =>
            rename_i B o N
            obtain ⟨hq1, hq2⟩ := takeN_spec ht
            obtain ⟨obj, ho, hor⟩ := W.objs _ _ _ _ _ hb hm
            cases hor with
            | cells g1 g2 g3 =>
              rename_i c elc
              obtain ⟨vs, hvs1, hvs2⟩ := hnew w.drawn
              have lv := hvs2.length
              have hmul : (ln + (m + 1)) * sz ≤ kc * sz := Nat.mul_le_mul_right _ hroom
              rw [Nat.add_mul] at hmul
              rw [hsz'] at hnl
              obtain ⟨c', s1, s2⟩ := storeCells_run (P := P) (B := B) (o := o + off + ln * sz) vs 0 c w ho (by omega) (hvs2.oneCell c3)
              have Wk := (W.kill b).new (.cells (old ++ new))
              have hnn : μ h.next = none := W.next_none
              have hbn : b < h.next := W.live _ _ hb
              have hx : Ext μ (upd μ h.next (B, o + off, N)) I I := .upd hnn
              have hc's : c'.size = N := by
                rw [← Array.length_toList, s2]; simp; omega
              have hORel : ORel (upd μ h.next (B, o + off, N)) I (.cells (old ++ new)) (o + off) N (.cells c' elc (0, 0)) := by
                refine .cells hc's (by simp; omega) fun j a ej => ?_
                rw [← Array.getElem?_toList, s2]
                simp only [Nat.add_zero]
                have ht' : (c.toList.take (o + off + ln * sz)).length = o + off + ln * sz := by simp; omega
                by_cases cj : j < ln * sz
                · rw [List.getElem?_append_left (by omega)] at ej
                  rw [List.append_assoc, List.getElem?_append_left (by omega), List.getElem?_take, if_pos (by omega)]
                  rw [hq1, List.getElem?_take, if_pos cj, List.getElem?_drop] at ej
                  obtain ⟨y, y1, y2⟩ := g3 _ _ ej
                  exact ⟨y, by rw [show o + off + j = o + (off + j) from by omega]; simpa using y1, y2.mono hx⟩
                · rw [List.getElem?_append_right (by omega)] at ej
                  rw [List.append_assoc, List.getElem?_append_right (by omega), ht']
                  rw [show o + off + j - (o + off + ln * sz) = j - old.length from by omega]
                  obtain ⟨y, y1, y2⟩ := hvs2.get ej
                  have hlt := (List.getElem?_eq_some_iff.1 y1).1
                  exact ⟨y, by rw [List.getElem?_append_left hlt]; exact y1, y2.mono hx⟩
              obtain ⟨m1, m2, m3⟩ := W.mapped _ _ _ _ hm
              have W' := Wk.take (b := h.next) (B := B) (o := o + off) (N := N) (q := .cells c' elc (0, 0)) (by rw [Heap.get_new]; exact if_pos rfl) hnn m1 m2 ?_ ?_ hORel
              · refine ⟨upd μ h.next (B, o + off, N), .slice (some ⟨B, o + off, none⟩) (ln + (m + 1)) kc, w.putBlock B (.cells c' elc (0, 0)), ?_, hkill ⟨hx, W', Nat.le_succ _, fun d hd hdn => ?_⟩, ?_⟩
                · simp only [hroom, if_true, Sem.run_bind, hvs1, Result.andThen_ok, add_none, hsz', s1, Sem.run_pure]
                · have hne : d ≠ h.next := by have : d < h.next := hd; omega
                  exact ⟨by rw [upd_ne _ _ hne]; exact hdn, by rw [Heap.get_new]; exact if_neg hne⟩
                · have := VRel.slice (I := I) (off := 0) (len := ln + (m + 1)) (cap := kc) (sz := i.size) (upd_self μ h.next (B, o + off, N)) hroom (by rw [hsz']; omega)
                  simpa [Heap.kill] using this
              · intro d x o' N' hd hmd
                rw [Heap.get_new] at hd
                split at hd
                · rename_i q'; rw [q'] at hmd; rw [show (h.kill b).next = h.next from rfl, hnn] at hmd; cases hmd
                · rw [Heap.get_kill] at hd
                  split at hd
                  · cases hd
                  · rename_i q1 q2; exact q2 (W.inj _ _ _ _ _ _ _ _ _ hd hb hmd hm)
              · intro o' y hy
                exact (W.imm _ _ _ hy).2.2 _ _ _ _ hb hm
        · obtain ⟨_, _, _, k4'⟩ := elems_run (P := P) (W.drew (w.drawn + 1)) he r
          obtain ⟨us', hus'⟩ := k4' ln (Nat.le_refl _)
          rw [List.take_of_length_le (by omega)] at hus'
          obtain ⟨μ', u, w', g1, g2, g3⟩ := grow ka ln kc (h.kill b) old (by omega) c1 c2 (W.kill b) ⟨us', hus'.1, hus'.2⟩ (by rw [k1])
          refine ⟨μ', u, w', ?_, hkill g2, g3⟩
          simp only [hroom, if_false]
          exact_mod_cast g1
  · cases e

theorem aappend_run (W : WRel μ I w0 h w) {st xt : TypeId} {s x v : AV} {s' x' : Value} {h' : Heap} {ty : TypeId} (e : aappend P h st xt s x = some (v, h')) (r : VRel μ I s s') (q : VRel μ I x x') :
    ∃ μ' u w', (Builtin.append_ #[st, xt] ty #[s', x']).run P w = .ok u w' ∧ Goes P μ μ' I w0 h h' w' ∧ VRel μ' I v u := by
  unfold aappend at e
  split at e
  case h_2 => cases e
  case h_1 el hu =>
  split at e
  case h_2 => cases e
  case h_1 i z xd hi hz hx =>
  obtain ⟨hc, e⟩ := cond_some e
  simp only [Bool.and_eq_true] at hc
  obtain ⟨⟨c1, c2⟩, c3⟩ := hc
  have c1 := beq_tt c1
  have c2 := blt_lt c2
  obtain ⟨i', zv, hi', hzv, rfl, _⟩ := run_zeroValue (P := P) hz w
  rw [hi] at hi'; cases hi'
  have hzr : VRels μ I (ofV zv).cells zv.cells.toList := zero_rels (ofV_rel zv) c3
  have lz := hzr.length
  simp only [Array.length_toList] at lz
  have hzs : zv.cells.size = i.size := by omega
  have hzrun : ∀ w, (zeroValue el).run P w = .ok zv w := by
    intro w
    obtain ⟨i', zv', hi', hzv', hq, hrun⟩ := run_zeroValue (P := P) hz w
    rw [hi] at hi'; cases hi'
    rw [hzv] at hzv'; cases hzv'
    exact hrun
  have hs : sizeT P el = some i.size := by simp [sizeT, hi]
  split at e
  case h_2 => cases e
  case h_1 n new hn =>
  -- what is appended
  have e0 := e
  unfold appended at hn
  split at hn
  · rename_i k
    split at hn
    case h_2 => cases hn
    rename_i k' m
    obtain ⟨hb, hn⟩ := cond_some hn
    have hb := Nat.le_of_ble_eq_true hb
    simp at hn
    obtain ⟨rfl, rfl⟩ := hn
    have hx'v : x' = .int k' (Int.ofNat m) := by cases q; rfl
    subst hx'v
    have hnewrun : ∀ j, ∃ vs : List Value, (if m * i.size = 0 then pure #[] else do pure (Builtin.zeroCells (← zeroValue el).cells m) : Sem (Array Value)).run P { w with drawn := j } = .ok vs.toArray { w with drawn := j } ∧ VRels μ I (repl (ofV zv).cells m) vs := by
      intro j
      have hr0 := map_range_get zv.cells (m * zv.cells.size) (by omega)
      have hbase : VRels μ I (repl (ofV zv).cells m) (Builtin.zeroCells zv.cells m).toList := by
        unfold Builtin.zeroCells
        exact repl_rels hzr m hr0.1 hr0.2
      by_cases h0 : m * i.size = 0
      · have hm0 : m = 0 := by rcases Nat.mul_eq_zero.1 h0 with h | h <;> omega
        subst hm0
        exact ⟨[], by simp, .nil⟩
      · exact ⟨(Builtin.zeroCells zv.cells m).toList, by simp [h0, hzrun], hbase⟩
    obtain ⟨base, sLen, sCap, rfl, μ', u, w', g1, g2, g3⟩ := append_core (P := P) W hi hzrun hzs true _ (.int k' (Int.ofNat m)) hnewrun (by rw [repl_length, c1]) e r
    refine ⟨μ', u, w', ?_, g2, g3⟩
    rw [← g1]
    have hw : IntKind.i64.wrap (m : Int) = m := wrap_nat hb
    have hbytes : ¬ ((m : Int) * (i.bytes : Int) > 2 ^ 48) := by
      have : ((m : Int) * (i.bytes : Int)) = ((m * i.bytes : Nat) : Int) := by push_cast; rfl
      rw [this]
      have : m * i.bytes ≤ 281474976710656 := by
        cases hm : m with
        | zero => simp
        | succ m' =>
          subst hm
          have h2 : ∀ L : Nat, (2 * (L + (m' + 1)) + 1024) * i.bytes ≤ 140737488355328 → (m' + 1) * i.bytes ≤ 281474976710656 := by
            intro L hL
            have : (m' + 1) * i.bytes ≤ (2 * (L + (m' + 1)) + 1024) * i.bytes := Nat.mul_le_mul_right _ (by omega)
            omega
          unfold appendTo at e0
          split at e0
          · obtain ⟨hc, _⟩ := cond_some e0
            simp only [Bool.and_eq_true] at hc
            exact h2 0 (by have := Nat.le_of_ble_eq_true hc.1.1; simpa using this)
          · split at e0
            · obtain ⟨hc, _⟩ := cond_some e0
              simp only [Bool.and_eq_true] at hc
              exact h2 _ (Nat.le_of_ble_eq_true hc.1.1)
            · cases e0
          · cases e0
      omega
    have hneg : ¬ ((m : Int) < 0) := by omega
    have a0 : (#[st, xt] : Array TypeId)[0]? = some st := rfl
    have a1 : (#[st, xt] : Array TypeId)[1]? = some xt := rfl
    have a2 : ∀ a b : Value, (#[a, b] : Array Value)[0]? = some a := fun _ _ => rfl
    have a3 : ∀ a b : Value, (#[a, b] : Array Value)[1]? = some b := fun _ _ => rfl
    simp only [Builtin.append_, a0, a1, a2, a3, Sem.run_bind, run_underlying hu, run_underlying hx, Result.andThen_ok, run_sizeOf hs]
    simp only [asInt, asIntOf, Sem.run_bind, Sem.run_pure, Result.andThen_ok, if_true, Bool.not_true, Bool.false_eq_true, if_false, Int.ofNat_eq_natCast, hw, hneg, run_typeInfo hi, hbytes, Int.toNat_natCast]
    rfl
  · rename_i nany
    have hne : ∀ k, xd ≠ .int k := fun k hk => nany k hk
    obtain ⟨k1, k2, ⟨ka, kc, k3⟩, k4⟩ := elems_run (P := P) W hn q
    have hnewrun : ∀ j, ∃ vs : List Value, (Builtin.firstCells i.size n x').run P { w with drawn := j } = .ok vs.toArray { w with drawn := j } ∧ VRels μ I new vs := by
      intro j
      obtain ⟨_, _, _, k4⟩ := elems_run (P := P) (W.drew j) hn q
      obtain ⟨vs, h1, h2⟩ := k4 n (Nat.le_refl _)
      rw [List.take_of_length_le (by omega)] at h2
      exact ⟨vs, h1, h2⟩
    obtain ⟨base, sLen, sCap, rfl, μ', u, w', g1, g2, g3⟩ := append_core (P := P) W hi hzrun hzs false _ x' hnewrun k1 e r
    refine ⟨μ', u, w', ?_, g2, g3⟩
    have a0 : (#[st, xt] : Array TypeId)[0]? = some st := rfl
    have a1 : (#[st, xt] : Array TypeId)[1]? = some xt := rfl
    have a2 : ∀ a b : Value, (#[a, b] : Array Value)[0]? = some a := fun _ _ => rfl
    have a3 : ∀ a b : Value, (#[a, b] : Array Value)[1]? = some b := fun _ _ => rfl
    cases xd <;> first
      | exact absurd rfl (hne _)
      | (simp only [Builtin.append_, a0, a1, a2, a3, Sem.run_bind, run_underlying hu, run_underlying hx, Result.andThen_ok, run_sizeOf hs, Sem.run_pure, Bool.false_eq_true, if_false, k2, Bool.not_false, if_true, false_or] at g1 ⊢
         exact g1)

/-- copy -/
theorem acopy_run (W : WRel μ I w0 h w) {t : TypeId} {d s v : AV} {d' s' : Value} {h' : Heap} {ts : Array TypeId} {ty : TypeId} (ht : ts[0]? = some t) (e : acopy P h t d s = some (v, h')) (r : VRel μ I d d') (q : VRel μ I s s') :
    ∃ u w', (Builtin.copy_ ts ty #[d', s']).run P w = .ok u w' ∧ Goes P μ μ I w0 h h' w' ∧ VRel μ I v u := by
  unfold acopy at e
  split at e
  case h_2 => cases e
  case h_1 el hu =>
  split at e
  case h_2 => cases e
  case h_1 sz hs =>
  cases hel : elems h sz s with
  | none => rw [hel] at e; simp at e
  | some nl =>
    obtain ⟨n, new⟩ := nl
    rw [hel] at e
    obtain ⟨k1, k2, _, k4⟩ := elems_run (P := P) W hel q
    have a2 : ∀ a b : Value, (#[a, b] : Array Value)[0]? = some a := fun _ _ => rfl
    have a3 : ∀ a b : Value, (#[a, b] : Array Value)[1]? = some b := fun _ _ => rfl
    cases r <;> simp only at e <;> first | (cases e; done) | skip
    case nils =>
      simp at e
      obtain ⟨rfl, rfl⟩ := e
      obtain ⟨vs, h1, h2⟩ := k4 0 (Nat.zero_le _)
      refine ⟨.int .i64 0, w, ?_, .refl W, .int _ _⟩
      simp [Builtin.copy_, ht, a2, a3, run_underlying hu, k2, run_sizeOf hs, h1, goInt]
    case slice b off len sz' cap B o N hm hl hN =>
      cases hb : h.get b with
      | none => rw [hb] at e; cases e
      | some ob =>
        rw [hb] at e
        split at e
        case h_2 => cases e
        case h_1 cs hq =>
        cases hq
        obtain ⟨hc, e⟩ := cond_some e
        simp at e
        obtain ⟨rfl, rfl⟩ := e
        simp only [Bool.and_eq_true] at hc
        obtain ⟨⟨c1, c2⟩, c3⟩ := hc
        have c1 := beq_tt c1
        have c2 := Nat.le_of_ble_eq_true c2
        subst c1
        obtain ⟨vs, h1, h2⟩ := k4 (Nat.min n len) (Nat.min_le_left _ _)
        obtain ⟨obj, ho, hor⟩ := W.objs _ _ _ _ _ hb hm
        cases hor with
        | cells g1 g2 g3 =>
          rename_i c elc
          have hle : Nat.min n len * sz ≤ len * sz := Nat.mul_le_mul_right _ (Nat.min_le_right _ _)
          have hle2 : Nat.min n len * sz ≤ n * sz := Nat.mul_le_mul_right _ (Nat.min_le_left _ _)
          have ln : (new.take (Nat.min n len * sz)).length = Nat.min n len * sz := by simp; omega
          have lv := h2.length
          have hone : (new.take (Nat.min n len * sz)).all AV.one = true := by
            rw [List.all_eq_true] at c3 ⊢
            intro x hx
            exact c3 x (List.mem_of_mem_take hx)
          obtain ⟨c', s1, s2⟩ := storeCells_run (P := P) (B := B) (o := o + off) vs 0 c w ho (by omega) (h2.oneCell hone)
          obtain ⟨z1, z2, z3⟩ := cells_splice (off := off) g1 g2 g3 h2 (by omega) s2
          have W' := W.update hb hm (.cells (e := elc) z1 z2 z3)
          refine ⟨.int .i64 (Nat.min n len), w.putBlock B (.cells c' elc (0, 0)), ?_, ⟨.refl _ _, W', Nat.le_refl _, fun d hd hn => ⟨hn, ?_⟩⟩, .int _ _⟩
          · simp [Builtin.copy_, ht, a2, a3, run_underlying hu, k2, run_sizeOf hs, h1, goInt, s1]
          · rw [Heap.get_set, if_neg (fun q => by subst q; rw [hm] at hn; cases hn)]
    case slice0 b off sz' B o N a hm =>
      cases hb : h.get b with
      | none => rw [hb] at e; cases e
      | some ob =>
        rw [hb] at e
        split at e
        case h_2 => cases e
        case h_1 cs hq =>
        cases hq
        obtain ⟨hc, e⟩ := cond_some e
        simp at e
        obtain ⟨rfl, rfl⟩ := e
        obtain ⟨vs, h1, h2⟩ := k4 0 (Nat.zero_le _)
        have hmin : Nat.min n 0 = 0 := Nat.min_zero n
        have hvs : vs = [] := by
          have := h2.length
          simp at this
          exact List.eq_nil_of_length_eq_zero this.symm
        subst hvs
        obtain ⟨obj, ho, hor⟩ := W.objs _ _ _ _ _ hb hm
        cases hor with
        | cells g1 g2 g3 =>
          rename_i c elc
          have hsp : splice cs off [] = cs := by simp [splice]
          have W' := W.update hb hm (ob' := .cells cs) (.cells (e := elc) g1 g2 g3)
          rw [putBlock_same w ho] at W'
          refine ⟨.int .i64 0, w, ?_, ⟨.refl _ _, by rw [hsp]; exact W', Nat.le_refl _, fun d hd hn => ⟨hn, ?_⟩⟩, .int _ _⟩
          · simp [Builtin.copy_, ht, a2, a3, run_underlying hu, k2, run_sizeOf hs, h1, goInt, storeCells]
          · rw [Heap.get_set, if_neg (fun q => by subst q; rw [hm] at hn; cases hn)]

end
end Go.Abs
