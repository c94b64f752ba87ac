/- Stores, new blocks, append, copy. -/
import Derived.Test.YtljmicpaheaemaaAbsHeap
namespace Go.Abs
open Go.RowKit (Below)
section
variable {P : Program} {μ : Mu} {I : Imm} {w0 w : World} {h : Heap}

theorem splice_length {cs vs : List AV} {off : Nat} (hl : off + vs.length ≤ cs.length) : (splice cs off vs).length = cs.length := by
  simp [splice]; omega

/-- Cells of a block, spliced on both sides. -/
theorem cells_splice {cs vs : List AV} {c c' : Array Value} {xs : List Value} {o N off : Nat}
    (h1 : c.size = N) (h2 : o + cs.length ≤ N) (h3 : ∀ (i : Nat) (a : AV), cs[i]? = some a → ∃ v, c[o + i]? = some v ∧ VRel μ I a v)
    (q : VRels μ I vs xs) (hl : off + vs.length ≤ cs.length) (hc : c'.toList = c.toList.take (o + off) ++ xs ++ c.toList.drop (o + off + xs.length)) :
    c'.size = N ∧ o + (splice cs off vs).length ≤ N ∧ ∀ (i : Nat) (a : AV), (splice cs off vs)[i]? = some a → ∃ v, c'[o + i]? = some v ∧ VRel μ I a v := by
  have lq := q.length
  have hs : c'.size = N := by
    rw [← Array.length_toList, hc]; simp; omega
  refine ⟨hs, by rw [splice_length hl]; exact h2, fun i a e => ?_⟩
  rw [← Array.getElem?_toList, hc]
  unfold splice at e
  rw [List.append_assoc] at e ⊢
  have ht : (cs.take off).length = off := by simp; omega
  have ht' : (c.toList.take (o + off)).length = o + off := by simp; omega
  by_cases c1 : i < off
  · rw [List.getElem?_append_left (by omega)] at e
    rw [List.getElem?_append_left (by omega)]
    rw [List.getElem?_take, if_pos c1] at e
    rw [List.getElem?_take, if_pos (by omega)]
    simpa using h3 i a e
  · rw [List.getElem?_append_right (by omega), ht] at e
    rw [List.getElem?_append_right (by omega), ht']
    have : o + i - (o + off) = i - off := by omega
    rw [this]
    by_cases c2 : i - off < vs.length
    · rw [List.getElem?_append_left c2] at e
      rw [List.getElem?_append_left (by omega)]
      exact q.get e
    · rw [List.getElem?_append_right (by omega)] at e
      rw [List.getElem?_append_right (by omega)]
      rw [List.getElem?_drop] at e ⊢
      have e2 := h3 _ a e
      rw [← Array.getElem?_toList] at e2
      have : o + off + xs.length + (i - off - xs.length) = o + (off + vs.length + (i - off - vs.length)) := by omega
      rw [this]
      exact e2

theorem astore_run (W : WRel μ I w0 h w) {t : TypeId} {a v : AV} {u x : Value} {h' : Heap} (e : astore P h t a v = some h') (r : VRel μ I a u) (q : VRel μ I v x) :
    ∃ w', (Instr.storeAt t u x).run P w = .ok () w' ∧ WRel μ I w0 h' w' ∧ h'.next = h.next ∧ ∀ b, μ b = none → h'.get b = h.get b := by
  unfold astore at e
  split at e
  · rename_i b off
    split at e
    · rename_i cs hb
      cases hs : sizeT P t with
      | none => rw [hs] at e; cases e
      | some s =>
        rw [hs] at e
        simp only at e
        obtain ⟨hc, e⟩ := cond_some e
        simp only [Bool.and_eq_true] at hc
        obtain ⟨⟨c1, c2⟩, c3⟩ := hc
        have c1 := beq_tt c1
        have c2 := Nat.le_of_ble_eq_true c2
        simp at e
        subst e
        cases r with
        | ptr hm =>
          rename_i B o N
          obtain ⟨obj, ho, hr⟩ := W.objs _ _ _ _ _ hb hm
          cases hr with
          | cells g1 g2 g3 =>
            rename_i c el
            have hnb : v ≠ .bad := by intro z; subst z; simp [AV.cells, AV.one] at c3
            have qc := q.cells hnb
            have lq := qc.length
            obtain ⟨c', k1, k2⟩ := storeCells_run (P := P) (B := B) (o := o + off) x.cells.toList 0 c w ho (by omega) (qc.oneCell c3)
            have hsz : x.cells.size = s := by rw [← Array.length_toList, ← lq, c1]
            refine ⟨w.putBlock B (.cells c' el (0, 0)), ?_, W.update hb hm ?_, rfl, ?_⟩
            · simp [Instr.storeAt, Instr.sureAddr, storeVar, run_sizeOf hs, hsz, k1]
            · obtain ⟨z1, z2, z3⟩ := cells_splice g1 g2 g3 qc (by omega) k2
              exact .cells z1 z2 z3
            · intro d hd
              rw [Heap.get_set, if_neg (fun q => by subst q; rw [hm] at hd; cases hd)]
    · cases e
  · cases e

theorem repl_length (z : List AV) (n : Nat) : (repl z n).length = n * z.length := by
  induction n with
  | zero => simp [repl]
  | succ n ih => simp [repl, ih, Nat.succ_mul]; omega

theorem repl_get (z : List AV) : ∀ (n i : Nat), i < n * z.length → (repl z n)[i]? = z[i % z.length]? := by
  intro n
  induction n with
  | zero => intro i h; omega
  | succ n ih =>
    intro i hi
    simp only [repl]
    rw [Nat.succ_mul] at hi
    by_cases c : i < z.length
    · rw [List.getElem?_append_left c, Nat.mod_eq_of_lt c]
    · rw [List.getElem?_append_right (by omega), ih _ (by omega)]
      congr 1
      conv => rhs; rw [show i = i - z.length + z.length from by omega, Nat.add_mod_right]

theorem zero_rels {z : AV} {v : Value} (r : VRel μ I z v) (hb : z.cells.all AV.one = true) : VRels μ I z.cells v.cells.toList := by
  refine r.cells ?_
  intro q; subst q; simp [AV.cells, AV.one] at hb

theorem repl_rels {z : List AV} {v : Array Value} (r : VRels μ I z v.toList) (n : Nat) {us : Array Value} (hn : us.size = n * v.size) (hu : ∀ i, i < n * v.size → us[i]? = v[i % v.size]?) :
    VRels μ I (repl z n) us.toList := by
  have lr := r.length
  simp only [Array.length_toList] at lr
  refine VRels.of_get ?_ fun i a x e f => ?_
  · have : us.toList.length = us.size := by simp
    rw [repl_length, this, hn, lr]
  · have hi : i < us.toList.length := (List.getElem?_eq_some_iff.1 f).1
    rw [Array.length_toList, hn] at hi
    rw [repl_get _ _ _ (by rw [lr]; exact hi), lr] at e
    rw [Array.getElem?_toList, hu i hi] at f
    obtain ⟨y, hy, hr⟩ := r.get e
    rw [Array.getElem?_toList, f] at hy
    cases hy
    exact hr

theorem map_range_get (v : Array Value) (m : Nat) (hv : 0 < v.size) : ((Array.range m).map (v[· % v.size]!)).size = m ∧ ∀ i, i < m → ((Array.range m).map (v[· % v.size]!))[i]? = v[i % v.size]? := by
  refine ⟨by simp, fun i hi => ?_⟩
  have : i % v.size < v.size := Nat.mod_lt _ hv
  simp [hi, this]

theorem afill_length {place : Nat → Option (Nat × Nat)} : ∀ {parts : List (Nat × AV)} {cells out : List AV}, afill place cells parts = some out → out.length = cells.length
  | [], cells, out, e => by simp [afill] at e; subst e; rfl
  | (i, a) :: rest, cells, out, e => by
    unfold afill at e
    split at e
    · cases e
    · split at e
      · cases e
      · obtain ⟨hc, e⟩ := cond_some e
        simp only [Bool.and_eq_true] at hc
        rw [afill_length e]
        exact splice_length (Nat.le_of_ble_eq_true hc.2)

theorem wrap_nat {n : Nat} (h : n ≤ 4611686018427387904) : IntKind.i64.wrap (n : Int) = n := IntWalk.i64_in _ (by omega)

/-- The block that an operation makes, whenever the model comes to make it. -/
theorem afresh_run {b : Nat} {tm : Tr AV} {ρ : Operand → Value} {o : Oper} {ob : AObj} {v : AV} (e : afresh P b tm o = some (ob, v))
    (hop : ∀ x ∈ o.op.operands.toList, VRel μ I (evalOp tm x) (ρ x)) (w : World) :
    ∃ q u N, (execOp ρ o).run P w = .ok (.value u) (w.pushBlock q) ∧ ∀ μ', Ext μ μ' I I → μ' b = some (w.heap.size, 0, N) → ORel μ' I ob 0 N q ∧ VRel μ' I v u := by
  obtain ⟨dst, op, type, pos, after, guard⟩ := o
  unfold afresh at e
  unfold execOp
  have cellsOf : ∀ {μ' : Mu} {cs : List AV} {us : Array Value} {el : TypeId}, VRels μ' I cs us.toList → ORel μ' I (.cells cs) 0 us.size (.cells us el (0, 0)) := by
    intro μ' cs us el hr
    have lr := hr.length
    simp only [Array.length_toList] at lr
    exact .cells rfl (by omega) fun i a ea => by
      obtain ⟨y, hy, hr⟩ := hr.get ea
      exact ⟨y, by simpa using hy, hr⟩
  cases op <;> simp only at e hop ⊢ <;> try cases e
  case alloc t =>
    cases hz : zeroA P t with
    | none => rw [hz] at e; cases e
    | some z =>
      rw [hz] at e
      obtain ⟨hc, e⟩ := cond_some e
      simp at e
      obtain ⟨rfl, rfl⟩ := e
      obtain ⟨i, zv, hi, hzv, rfl, hrun⟩ := run_zeroValue (P := P) hz w
      refine ⟨.cells zv.cells t (0, 0), .pointer (some ⟨w.heap.size, 0, none⟩), zv.cells.size, ?_, fun μ' hx hm => ⟨?_, ?_⟩⟩
      · simp [Instr.alloc, hrun, newVar, newRow, World.pushBlock]
      · exact cellsOf (zero_rels (ofV_rel zv) hc)
      · have := VRel.ptr (I := I) (off := 0) hm; simpa using this
  case box t x =>
    have hxx := hop x (by simp [Op.operands])
    split at e
    · cases e
    · rename_i hnb
      obtain ⟨hc, e⟩ := cond_some e
      simp at e
      obtain ⟨rfl, rfl⟩ := e
      refine ⟨.cells (ρ x).cells t (0, 0), .pointer (some ⟨w.heap.size, 0, none⟩), (ρ x).cells.size, ?_, fun μ' hx hm => ⟨?_, ?_⟩⟩
      · simp [Instr.box, newVar, newRow, World.pushBlock]
      · exact cellsOf (zero_rels (hxx.mono hx) hc)
      · have := VRel.ptr (I := I) (off := 0) hm; simpa using this
  case makeMap t r =>
    have fin : ∀ s : Sem Value, s.run P w = .ok (.map (some w.heap.size)) (w.pushBlock (.map #[] 0)) → ∃ q u N, (do pure (.value (← s)) : Sem Next).run P w = .ok (.value u) (w.pushBlock q) ∧ ∀ μ', Ext μ μ' I I → μ' b = some (w.heap.size, 0, N) → ORel μ' I (.map [] 0) 0 N q ∧ VRel μ' I (.map b) u :=
      fun s hs => ⟨.map #[] 0, .map (some w.heap.size), 0, by simp [hs], fun μ' hx hm => ⟨.map .nil, .map hm⟩⟩
    cases r with
    | none =>
      simp at e
      obtain ⟨rfl, rfl⟩ := e
      exact fin _ (by simp [Instr.makeMap, newObj, Sem.run]; rfl)
    | some x =>
      have hxx := hop x (by simp [Op.operands])
      simp only at e
      split at e
      case h_2 => cases e
      rename_i kt et k n hu hx
      simp at e
      obtain ⟨rfl, rfl⟩ := e
      rw [hx] at hxx
      refine fin _ ?_
      simp only [Option.map_some]
      generalize ρ x = rx at hxx ⊢
      cases hxx
      simp [Instr.makeMap, run_underlying hu, asInt, asIntOf, newObj, Sem.run]
      rfl
  case buildSlice t len parts =>
    split at e
    case h_2 => cases e
    case h_1 el hu =>
    split at e
    case h_2 => cases e
    case h_1 s z hs hz =>
    obtain ⟨hc, e⟩ := cond_some e
    simp only [Bool.and_eq_true] at hc
    obtain ⟨⟨⟨c1, c2⟩, c3⟩, c4⟩ := hc
    have c1 := beq_tt c1
    have c2 := blt_lt c2
    have c3 := Nat.le_of_ble_eq_true c3
    split at e
    case h_2 => cases e
    case h_1 cs hf =>
    obtain ⟨hone, e⟩ := cond_some e
    simp at e
    obtain ⟨rfl, rfl⟩ := e
    obtain ⟨i, zv, hi, hzv, rfl, hrun⟩ := run_zeroValue (P := P) hz w
    have hzr : VRels μ I (ofV zv).cells zv.cells.toList := zero_rels (ofV_rel zv) c4
    have lz := hzr.length
    simp only [Array.length_toList] at lz
    have hzs : zv.cells.size = s := by omega
    have q : PRels μ I (parts.toList.map fun p => (p.1, evalOp tm p.2)) (parts.toList.map fun p => (p.1, ρ p.2)) :=
      PRels.map fun p hp => hop p.2 (by simp [Op.operands]; exact ⟨p.1, by simpa using hp⟩)
    have hr0 := map_range_get zv.cells (len * s) (by omega)
    have hbase : VRels μ I (repl (ofV zv).cells len) ((Array.range (len * s)).map (zv.cells[· % zv.cells.size]!)).toList :=
      repl_rels hzr len (by rw [hr0.1, hzs]) (fun i hi => hr0.2 i (by rw [hzs] at hi; exact hi))
    obtain ⟨out, k1, k2⟩ := afill_run hf q hbase
    refine ⟨.cells out el (0, 0), .slice (some ⟨w.heap.size, 0, none⟩) len len, out.size, ?_, fun μ' hx hm => ⟨cellsOf (k2.mono hx), ?_⟩⟩
    · have hbig : ¬ 16777216 < len * s := by omega
      by_cases h0 : len * s = 0
      · have e0 : (Array.range (len * s)).map (zv.cells[· % zv.cells.size]!) = #[] := by rw [h0]; simp
        rw [e0] at k1
        have hl0 : len = 0 := by rcases Nat.mul_eq_zero.1 h0 with h | h <;> omega
        subst hl0
        have hr : Array.range 0 = #[] := rfl
        simp [Instr.buildSlice, run_underlying hu, run_sizeOf hs, k1, newRow, World.pushBlock, hr]
      · simp [Instr.buildSlice, run_underlying hu, run_sizeOf hs, h0, hrun, k1, newRow, World.pushBlock, hbig]
    · have lo : out.size = len * s := by
        have h1 := k2.length
        have h2 := afill_length hf
        rw [repl_length, c1] at h2
        simp only [Array.length_toList] at h1
        omega
      have := VRel.slice (I := I) (off := 0) (len := len) (cap := len) (sz := s) hm (Nat.le_refl _) (by omega)
      simpa using this
  case makeSlice t l c =>
    split at e
    case h_2 => cases e
    case h_1 el hu =>
    split at e
    case h_2 => cases e
    case h_1 i z k1 m k2 n hi hz hl hcp =>
    obtain ⟨hc, e⟩ := cond_some e
    simp at e
    obtain ⟨rfl, rfl⟩ := e
    simp only [Bool.and_eq_true] at hc
    obtain ⟨⟨⟨⟨⟨c1, c2⟩, c3⟩, c4⟩, c5⟩, c6⟩ := hc
    have c1 := beq_tt c1
    have c2 := blt_lt c2
    have c3 := beq_tt c3
    have c4 := Nat.le_of_ble_eq_true c4
    have c5 := Nat.le_of_ble_eq_true c5
    subst c3
    have r1 := hop l (by simp [Op.operands])
    have r2 := hop c (by simp [Op.operands])
    rw [hl] at r1
    rw [hcp] at r2
    obtain ⟨i', zv, hi', hzv, rfl, hrun⟩ := run_zeroValue (P := P) hz w
    rw [hi] at hi'
    cases hi'
    have hzr : VRels μ I (ofV zv).cells zv.cells.toList := zero_rels (ofV_rel zv) c6
    have lz := hzr.length
    simp only [Array.length_toList] at lz
    have hzs : zv.cells.size = i.size := by omega
    have hs : sizeT P el = some i.size := by simp [sizeT, hi]
    have hr0 := map_range_get zv.cells (m * i.size) (by omega)
    have hbase : VRels μ I (repl (ofV zv).cells m) ((Array.range (m * i.size)).map (zv.cells[· % zv.cells.size]!)).toList :=
      repl_rels hzr m (by rw [hr0.1, hzs]) (fun j hj => hr0.2 j (by rw [hzs] at hj; exact hj))
    refine ⟨.cells ((Array.range (m * i.size)).map (zv.cells[· % zv.cells.size]!)) el (0, 0), .slice (some ⟨w.heap.size, 0, none⟩) m m, m * i.size, ?_, fun μ' hx hm => ⟨?_, ?_⟩⟩
    · have q1 : asInt (ρ l) = pure (m : Int) := by
        generalize ρ l = x at r1; cases r1; rfl
      have q2 : asInt (ρ c) = pure (m : Int) := by
        generalize ρ c = x at r2; cases r2; rfl
      have hw := wrap_nat c5
      have hb1 : ¬ (281474976710656 < (i.bytes : Int) * (m : Int)) := by
        have : ((i.bytes : Int) * (m : Int)) = ((m * i.bytes : Nat) : Int) := by push_cast; rw [Int.mul_comm]
        rw [this]; omega
      have hneg : ¬ ((m : Int) < 0) := by omega
      simp only [Instr.makeSlice, Sem.run_bind, run_underlying hu, Result.andThen_ok, q1, q2, Sem.run_pure, run_typeInfo hi, hw]
      by_cases h0 : m * i.size = 0
      · have e0 : (Array.range (m * i.size)).map (zv.cells[· % zv.cells.size]!) = #[] := by rw [h0]; simp
        have hl0 : m = 0 := by rcases Nat.mul_eq_zero.1 h0 with h | h <;> omega
        subst hl0
        have hr : Array.range 0 = #[] := rfl
        simp [run_sizeOf hs, newRow, World.pushBlock, hr]
      · simp [hb1, hneg, run_sizeOf hs, h0, hrun, newRow, World.pushBlock]
    · have := cellsOf (el := el) (hbase.mono hx)
      rw [hr0.1] at this
      exact this
    · have := VRel.slice (I := I) (off := 0) (len := m) (cap := m) (sz := i.size) hm (Nat.le_refl _) (by omega)
      simpa using this

/-! ### append, copy -/
theorem cellsAt_take {cs l : List AV} {B o n : Nat} (c : CellsAt μ I w cs B o) (e : takeN n cs = some l) (m : Nat) (hm : m ≤ n) :
    ∃ vs : List Value, (loadCells ⟨B, o, none⟩ m).run P w = .ok vs.toArray w ∧ VRels μ I (l.take m) vs := by
  have c' := c.take e
  have hl := (takeN_spec e).2
  refine loadCells_run (cs := l.take m) (fun i a ei => ?_) (by simp; omega)
  rw [List.getElem?_take] at ei
  split at ei
  · exact c' i a ei
  · cases ei

theorem elems_run (W : WRel μ I w0 h w) {sz n : Nat} {x : AV} {l : List AV} {u : Value} (e : elems h sz x = some (n, l)) (r : VRel μ I x u) :
    l.length = n * sz ∧ (Builtin.lenOf u).run P w = .ok n w ∧ (∃ a c, u = .slice a n c) ∧
      ∀ m, m ≤ n → ∃ vs : List Value, (Builtin.firstCells sz m u).run P w = .ok vs.toArray w ∧ VRels μ I (l.take (m * sz)) vs := by
  unfold elems at e
  split at e
  · cases e
    cases r
    refine ⟨by simp, by simp [Builtin.lenOf], ⟨_, _, rfl⟩, fun m hm => ⟨[], by simp [Builtin.firstCells], by simp; exact .nil⟩⟩
  · rename_i b off len s
    split at e
    · rename_i cs hb
      obtain ⟨hs, e⟩ := cond_some e
      have hs := beq_tt hs
      subst hs
      cases ht : takeN (len * s) (cs.drop off) with
      | none => rw [ht] at e; simp at e
      | some q =>
        rw [ht] at e
        simp at e
        obtain ⟨rfl, rfl⟩ := e
        have hl := (takeN_spec ht).2
        cases r with
        | slice hm h1 h2 =>
          rename_i cap B o N
          refine ⟨hl, by simp [Builtin.lenOf], ⟨_, _, rfl⟩, fun m hm' => ?_⟩
          obtain ⟨vs, k1, k2⟩ := cellsAt_take (P := P) ((cellsAt_block W hb hm).drop off) ht (m * s) (Nat.mul_le_mul_right _ hm')
          exact ⟨vs, by simp [Builtin.firstCells, k1], k2⟩
        | slice0 hm =>
          refine ⟨hl, by simp [Builtin.lenOf], ⟨_, _, rfl⟩, fun m hm' => ?_⟩
          have : m = 0 := by omega
          subst this
          exact ⟨[], by simp [Builtin.firstCells, loadCells, loadCellsFrom], by simp; exact .nil⟩
    · cases e
  · rename_i cs len s
    obtain ⟨hs, e⟩ := cond_some e
    have hs := beq_tt hs
    subst hs
    cases ht : takeN (len * s) cs with
    | none => rw [ht] at e; simp at e
    | some q =>
      rw [ht] at e
      simp at e
      obtain ⟨rfl, rfl⟩ := e
      have hl := (takeN_spec ht).2
      cases r with
      | vslice hc h1 =>
        rename_i cap B o
        refine ⟨hl, by simp [Builtin.lenOf], ⟨_, _, rfl⟩, fun m hm' => ?_⟩
        obtain ⟨vs, k1, k2⟩ := cellsAt_take (P := P) (cellsAt_imm W hc) ht (m * s) (Nat.mul_le_mul_right _ hm')
        exact ⟨vs, by simp [Builtin.firstCells, k1], k2⟩
      | vslice0 =>
        refine ⟨hl, by simp [Builtin.lenOf], ⟨_, _, rfl⟩, fun m hm' => ?_⟩
        have : m = 0 := by omega
        subst this
        exact ⟨[], by simp [Builtin.firstCells, loadCells, loadCellsFrom], by simp; exact .nil⟩
  · cases e

theorem growBy_le (newLen : Nat) : ∀ (k c : Nat), c ≤ 2 * newLen + 1024 → Builtin.growBy newLen k c ≤ 2 * newLen + 1024 := by
  intro k
  induction k with
  | zero => intro c hc; exact hc
  | succ k ih =>
    intro c hc
    simp only [Builtin.growBy]
    split
    · exact hc
    · exact ih _ (by omega)

theorem nextslicecap_le (newLen old : Nat) (h : old < newLen) : Builtin.nextslicecap newLen old ≤ 2 * newLen + 1024 := by
  unfold Builtin.nextslicecap
  split
  · omega
  · split
    · omega
    · exact growBy_le _ _ _ (by omega)

theorem zeroCells_size (z : Array Value) (n : Nat) : (Builtin.zeroCells z n).size = n * z.size := by simp [Builtin.zeroCells]

end
end Go.Abs
