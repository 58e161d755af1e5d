/- What an operation does, by its abstract account: reading and writing memory. -/
import Derived.Test.YtkihnmpjpbfiaaaDoorEv3
set_option linter.unusedVariables false
set_option linter.unusedSimpArgs false
namespace Go.Proofs.YtkihnmpjpbfiaaaDoor.Ev
open Go

def upd (η : Eta) (fid : Nat) (A : RA) : Eta := fun id => if id = fid then some A else η id

theorem upd_same (η : Eta) (fid : Nat) (A : RA) : upd η fid A fid = some A := by simp [upd]
theorem upd_ext {η : Eta} {fid : Nat} {A : RA} (h : η fid = none) : ∀ id B, η id = some B → upd η fid A id = some B := by
  intro id B hB
  have : id ≠ fid := by rintro rfl; rw [h] at hB; cases hB
  simp [upd, this, hB]

section
variable {E : Env} {η : Eta} {H : Nat → AB} {w w' : World} {fid : Nat}

theorem Concl.pure {side : Prop} {av : AV} {v : Value} (hv : Mat E η av v) (hh : w'.heap = w.heap) (hg : Bg w w' := by exact ⟨rfl, rfl, rfl⟩) : Concl E η η H w w' fid ⟨side, av, [], fid⟩ v where
  bg := hg
  ext := fun _ _ h => h
  dom := fun id A h h' => by rw [h'] at h; cases h
  val := hv
  upd := fun id ab h => by simp [lookup] at h
  dst := fun id id' ab ab' A A' _ h => by simp [lookup] at h
  frm := fun b _ _ => by rw [hh]
  sz := by rw [hh]; exact Nat.le_refl _

/-- A row in no memory: nothing has been made. -/
theorem Concl.virt {side : Prop} {av : AV} {v : Value} {ab : AB} (hη : η fid = none) (hh : w'.heap = w.heap)
    (ok : BlkOk E η w' ⟨0, 0, 0⟩ ab) (hv : Mat E (Ev.upd η fid ⟨0, 0, 0⟩) av v) (hg : Bg w w' := by exact ⟨rfl, rfl, rfl⟩) :
    Concl E η (Ev.upd η fid ⟨0, 0, 0⟩) H w w' fid ⟨side, av, [(fid, ab)], fid + 1⟩ v where
  bg := hg
  ext := upd_ext hη
  dom := fun id A h h' => by
    by_cases e : id = fid
    · subst e; exact ⟨Nat.le_refl _, Nat.lt_succ_self _⟩
    · simp [Ev.upd, e, h'] at h
  val := hv
  upd := fun id ab' h _ => by
    simp only [lookup] at h
    split at h
    · rename_i e; subst e
      simp at h; subst h
      exact ⟨_, upd_same _ _ _, ok.mono (upd_ext hη), fun h => by cases h⟩
    · cases h
  dst := fun id id' ab ab' A A' hne h h' => by
    simp only [lookup] at h h'
    split at h <;> split at h' <;> first | (cases h; done) | (cases h'; done) | (exact absurd (by omega) hne)
  frm := fun b hb _ => by rw [hh]
  sz := by rw [hh]; exact Nat.le_refl _

theorem Concl.fresh {side : Prop} {av : AV} {v : Value} {ab : AB} {o : Obj} {cap : Nat} (hη : η fid = none) (hh : w'.heap = w.heap.push o)
    (ok : BlkOk E η w' ⟨w.heap.size, 0, cap⟩ ab) (hv : Mat E (Ev.upd η fid ⟨w.heap.size, 0, cap⟩) av v) (hg : Bg w w' := by exact ⟨rfl, rfl, rfl⟩) :
    Concl E η (Ev.upd η fid ⟨w.heap.size, 0, cap⟩) H w w' fid ⟨side, av, [(fid, ab)], fid + 1⟩ v where
  bg := hg
  ext := upd_ext hη
  dom := fun id A h h' => by
    by_cases e : id = fid
    · subst e; exact ⟨Nat.le_refl _, Nat.lt_succ_self _⟩
    · simp [Ev.upd, e, h'] at h
  val := hv
  upd := fun id ab' h _ => by
    simp only [lookup] at h
    split at h
    · rename_i e; subst e
      simp at h; subst h
      exact ⟨_, upd_same _ _ _, ok.mono (upd_ext hη), fun _ => ⟨by rw [hh]; simp, .inl (Nat.le_refl _)⟩⟩
    · cases h
  dst := fun id id' ab ab' A A' hne h h' => by
    simp only [lookup] at h h'
    split at h <;> split at h' <;> first | (cases h; done) | (cases h'; done) | (exact absurd (by omega) hne)
  frm := fun b hb _ => by rw [hh, Array.getElem?_push]; simp [Nat.ne_of_lt hb]
  sz := by rw [hh]; simp

theorem Concl.set {side : Prop} {av : AV} {v : Value} {ab : AB} {id : Nat} {A : RA} (hA : η id = some A) (hl : (H id).live = true) (hcap : 0 < A.cap) (hlt : A.blk < w.heap.size)
    (hs : w'.heap.size = w.heap.size) (ho : ∀ b, b ≠ A.blk → w'.heap[b]? = w.heap[b]?) (ok : BlkOk E η w' A ab) (hv : Mat E η av v) (hg : Bg w w' := by exact ⟨rfl, rfl, rfl⟩) :
    Concl E η η H w w' fid ⟨side, av, [(id, ab)], fid⟩ v where
  bg := hg
  ext := fun _ _ h => h
  dom := fun id A h h' => by rw [h'] at h; cases h
  val := hv
  upd := fun id' ab' h _ => by
    simp only [lookup] at h
    split at h
    · rename_i e; subst e
      simp at h; subst h
      exact ⟨A, hA, ok, fun _ => ⟨by rw [hs]; exact hlt, .inr ⟨id, A, hA, hcap, rfl, hl, ab, by simp [lookup]⟩⟩⟩
    · cases h
  dst := fun id1 id' ab ab' A A' hne h h' => by
    simp only [lookup] at h h'
    split at h <;> split at h' <;> first | (cases h; done) | (cases h'; done) | (exact absurd (by omega) hne)
  frm := fun b _ h => ho b fun e => h id A ab (by simp [lookup]) hl hA hcap e.symm
  sz := by rw [hs]; exact Nat.le_refl _
end

theorem within_eq {H : Nat → AB} {l : List Nat} {id : Nat} {x : AB} (h : within H l id = x) (hx : x.live = true) : H id = x := by
  unfold within at h
  split at h
  · exact h
  · subst h; cases hx

def OpOk (P : Program) (o : Oper) (a : Act) (w : World) (Post : Value → World → Prop) : Prop :=
  (∃ v w', (execOp a.eval o).run P w = .ok (.value v) w' ∧ Post v w') ∨
  (∃ w', (execOp a.eval o).run P w = .ok .skip w' ∧ Post undef w') ∨
  (∃ f args, (execOp a.eval o).run P w = .ok (.enter f args) w ∧ Calls P f args w fun e w' => ∃ v, e = .returned v ∧ Post v w') ∨
  (∃ l f tmps assign body, (execOp a.eval o).run P w = .ok (.round l f tmps assign body) w ∧ ∀ m, RoundIn Fence.wide m P l f tmps assign body w fun e w' => ∃ v, e = .returned v ∧ Post v w')

def SpecOk (P : Program) (g : FuncId) (s : FSpec) : Prop :=
  ∀ (E : Env) (η : Eta) (H : Nat → AB) (D : Nat → Prop) (w : World) (fid : Nat) (as : List AV) (args : Array Value) (r : R), MatL E η as args.toList → Heap E η H D w →
    s.run as (within H (s.foot as fid)) fid = some r → (∀ id, fid ≤ id → id < r.nxt → η id = none) → r.side →
    Calls P g args w fun e w' => ∃ v, e = .returned v ∧ ∃ η', Concl E η η' H w w' fid r v

/-- What is known of a round that 'yield' begins: its first argument is yield itself. -/
def YieldOk (P : Program) (s : FSpec) : Prop :=
  ∀ (E : Env) (η : Eta) (H : Nat → AB) (D : Nat → Prop) (w : World) (fid : Nat) (id : Nat) (A : RA) (as : List AV) (args : Array Value) (r : R), η id = some A → MatL E η as args.toList → Heap E η H D w →
    s.run (.yl id :: as) (within H (s.foot (.yl id :: as) fid)) fid = some r → (∀ id, fid ≤ id → id < r.nxt → η id = none) → r.side →
    ∃ f tmps assign body, (Instr.yield A.blk args).run P w = .ok (.round A.blk f tmps assign body) w ∧
      ∀ m, RoundIn Fence.wide m P A.blk f tmps assign body w fun e w' => ∃ v, e = .returned v ∧ ∃ η', Concl E η η' H w w' fid r v

/-- What is known of a function that has no body: the model answers it at once. -/
def ExtOk (P : Program) (g : FuncId) (s : FSpec) : Prop :=
  ∀ (E : Env) (η : Eta) (H : Nat → AB) (D : Nat → Prop) (w : World) (fid : Nat) (as : List AV) (args : Array Value) (r : R), MatL E η as args.toList → Heap E η H D w →
    s.run as (within H (s.foot as fid)) fid = some r → (∀ id, fid ≤ id → id < r.nxt → η id = none) → r.side →
    ∃ v w', (callFunc g args).run P w = .ok (.value v) w' ∧ ∃ η', Concl E η η' H w w' fid r v

def SpecsOk (P : Program) (sp : Specs) : Prop := ∀ g s, sp g = some s → if g = yieldKey then YieldOk P s else
  (SpecOk P g s ∧ ∃ fn b, P.funcs[g]? = some fn ∧ fn.body = some b ∧ (fn.name == "runtime.NumGoroutine") = false) ∨ ExtOk P g s

/-! ### Types -/
section
variable {P : Program} {w : World}
theorem info_of_underlying {t : TypeId} {d : TypeDesc} (h : P.underlying t = some d) : ∃ i, P.info? t = some i := by
  unfold Program.underlying at h
  split at h
  · rename_i hh; exact ⟨_, hh⟩
  · rename_i hh; exact ⟨_, hh⟩
  · cases h
theorem run_underlying' {t : TypeId} {d : TypeDesc} (h : P.underlying t = some d) : (underlying t).run P w = .ok d w := by
  simp [underlying, h]
theorem run_sizeOf' {t : TypeId} {i : TypeInfo} (h : P.info? t = some i) : (sizeOf t).run P w = .ok (P.cellsOf t) w := by
  simp [sizeOf, typeInfo, h, Program.cellsOf]
theorem run_isAgg {t : TypeId} {b : Bool} (h : isAggT P t = some b) : (isAgg t).run P w = .ok b w := by
  unfold isAggT at h
  split at h
  · rename_i hu; cases h; simp [isAgg, run_underlying' hu]
  · rename_i hu; cases h; simp [isAgg, run_underlying' hu]
  · rename_i d h1 h2 hu
    cases h
    simp only [isAgg, Sem.run_bind, run_underlying' hu, Result.andThen_ok]
    cases d <;> first | rfl | exact absurd hu (h1 _) | exact absurd hu (h2 _ _)
  · cases h
theorem info_of_isAgg {t : TypeId} {b : Bool} (h : isAggT P t = some b) : ∃ i, P.info? t = some i := by
  unfold isAggT at h
  split at h <;> first | (cases h; done) | exact info_of_underlying ‹_›

theorem add_eq (b o n : Nat) : (⟨b, o, none⟩ : Addr).add n = ⟨b, o + n, none⟩ := by
  unfold Addr.add; split <;> simp_all

theorem run_loadVar_one {t : TypeId} {A : Addr} {v : Value} (h : isAggT P t = some false) (hc : w.cell? A = some v) : (loadVar t A).run P w = .ok v w := by
  simp [loadVar, run_isAgg h, hc]
theorem run_loadVar_agg {t : TypeId} {b o : Nat} {cs : List Value} (h : isAggT P t = some true) (hc : ∀ j v, cs[j]? = some v → w.cell? ⟨b, o + j, none⟩ = some v) (hl : cs.length = P.cellsOf t) :
    (loadVar t ⟨b, o, none⟩).run P w = .ok (.agg cs.toArray) w := by
  obtain ⟨i, hi⟩ := info_of_isAgg h
  have := run_loadCells_list (P := P) w ⟨b, o, none⟩ cs (fun j v hj => by rw [add_eq]; exact hc j v hj)
  rw [hl] at this
  simp [loadVar, run_isAgg h, run_sizeOf' hi, this]

theorem cell_of {b : Nat} {cs : Array Value} {t : TypeId} {fr : Nat × Nat} (h : w.heap[b]? = some (.cells cs t fr)) (o : Nat) : w.cell? ⟨b, o, none⟩ = cs[o]? := by
  simp [World.cell?, h]
theorem frozen_of {b o : Nat} {cs : Array Value} {t : TypeId} {fr : Nat × Nat} (h : w.heap[b]? = some (.cells cs t fr)) (hf : free fr cs.size) (ho : o < cs.size) : w.frozen? ⟨b, o, none⟩ = false := by
  obtain ⟨lo, hi⟩ := fr
  simp only [World.frozen?, h]
  simp only [free] at hf
  simp only [Bool.and_eq_false_iff, decide_eq_false_iff_not]
  omega

theorem heap_setCell {b o : Nat} {cs : Array Value} {t : TypeId} {fr : Nat × Nat} {v : Value} (h : w.heap[b]? = some (.cells cs t fr)) :
    (w.setCell ⟨b, o, none⟩ v).heap[b]? = some (.cells (cs.setIfInBounds o v) t fr) := by
  simp [World.setCell, Array.getElem?_modify, h]
theorem heap_setCell_ne {b b' o : Nat} {v : Value} (h : b' ≠ b) : (w.setCell ⟨b, o, none⟩ v).heap[b']? = w.heap[b']? := by
  simp [World.setCell, Array.getElem?_modify, Ne.symm h]

/-- Several cells stored, one behind the other. -/
theorem run_storeCells' {b : Nat} {t : TypeId} {fr : Nat × Nat} (o : Nat) : ∀ (vs : List Value) (i : Nat) (cs : Array Value) (w : World), w.heap[b]? = some (.cells cs t fr) → free fr cs.size →
    o + i + vs.length ≤ cs.size → (∀ v ∈ vs, v.oneCell' = true) →
    ∃ w', (storeCells ⟨b, o, none⟩ vs i).run P w = .ok () w' ∧ w'.heap.size = w.heap.size ∧ (∀ b', b' ≠ b → w'.heap[b']? = w.heap[b']?) ∧
      w'.heap[b]? = some (.cells (cs.toList.take (o + i) ++ vs ++ cs.toList.drop (o + i + vs.length)).toArray t fr) ∧ Bg w w'
  | [], i, cs, w, h, _, _, _ => by
    refine ⟨w, by simp [storeCells], rfl, fun _ _ => rfl, ?_, Bg.refl _⟩
    simp [h]
  | v :: rest, i, cs, w, h, hf, hl, h1 => by
    simp only [List.length_cons] at hl
    have hc : w.cell? ⟨b, o + i, none⟩ = some cs[o + i] := by rw [cell_of h]; simp
    have hz : w.frozen? ⟨b, o + i, none⟩ = false := frozen_of h hf (by omega)
    have hst : (store ((⟨b, o, none⟩ : Addr).add i) v).run P w = .ok () (w.setCell ⟨b, o + i, none⟩ v) := by
      rw [add_eq, run_store P w _ v _ (h1 v (by simp)), hc]
      simp [hz]
    obtain ⟨w', g1, g2, g3, g4, g5⟩ := run_storeCells' o rest (i + 1) (cs.setIfInBounds (o + i) v) (w.setCell ⟨b, o + i, none⟩ v) (heap_setCell h) (by simpa using hf) (by simp; omega) (fun x hx => h1 x (by simp [hx]))
    refine ⟨w', ?_, by rw [g2]; simp, fun b' hb => by rw [g3 b' hb, heap_setCell_ne hb], ?_, Bg.trans (a := w) (b := w.setCell ⟨b, o + i, none⟩ v) ⟨rfl, rfl, rfl⟩ g5⟩
    · simp only [storeCells, Sem.run_bind, hst, Result.andThen_ok, g1]
    · rw [g4]
      congr 3
      rw [Array.toList_setIfInBounds]
      have e : o + i < cs.toList.length := by simp; omega
      rw [show o + (i + 1) = o + i + 1 by omega, List.take_add_one, List.getElem?_set_self e]
      rw [List.take_set_of_le (Nat.le_refl _), List.drop_set_of_lt (by omega)]
      simp [Nat.add_assoc, Nat.add_comm 1]

theorem run_storeVar' {ty t : TypeId} {b o : Nat} {cs : Array Value} {fr : Nat × Nat} {v : Value} {i : TypeInfo} (hi : P.info? ty = some i) (hn : v.cells.size = P.cellsOf ty)
    (h : w.heap[b]? = some (.cells cs t fr)) (hf : free fr cs.size) (hl : o + v.cells.size ≤ cs.size) (h1 : ∀ x ∈ v.cells.toList, x.oneCell' = true) :
    ∃ w', (storeVar ty ⟨b, o, none⟩ v).run P w = .ok () w' ∧ w'.heap.size = w.heap.size ∧ (∀ b', b' ≠ b → w'.heap[b']? = w.heap[b']?) ∧
      w'.heap[b]? = some (.cells (cs.toList.take o ++ v.cells.toList ++ cs.toList.drop (o + v.cells.size)).toArray t fr) ∧ Bg w w' := by
  obtain ⟨w', g1, g2, g3, g4, g5⟩ := run_storeCells' (P := P) o v.cells.toList 0 cs w h hf (by simpa using hl) h1
  refine ⟨w', ?_, g2, g3, by simpa using g4, g5⟩
  simp [storeVar, run_sizeOf' hi, hn, g1]
end

section
variable {P : Program} {E : Env} {η : Eta} {H : Nat → AB} {D : Nat → Prop} {w : World} {fid : Nat}

theorem ext_cell (hH : Heap E η H D w) {b o : Nat} {rc : RC} (h : ExtAt E b o rc) {j : Nat} {v : Value} (hj : rc.vals[j]? = some v) : w.cell? ⟨b, o + j, none⟩ = some v := by
  obtain ⟨h1, h2, h3⟩ := h
  have := h3 j v hj
  unfold World.cell? at this ⊢
  rw [hH.fr b h1 h2]
  exact this

theorem partA_cells {t : TypeId} {l : List AV} {off : Nat} {a : AV} {cs : Array Value} {ty : TypeId} {fr : Nat × Nat} {b : Nat} (h : partA P t l off = some a) (m : MatC E η l cs.toList)
    (hb : w.heap[b]? = some (.cells cs ty fr)) : ∃ v, (loadVar t ⟨b, off, none⟩).run P w = .ok v w ∧ Mat E η a v := by
  unfold partA at h
  split at h
  · rename_i ht
    split at h
    · rename_i x r h1
      split at h
      · rename_i x' r' h2
        cases h
        obtain ⟨a1, _, a3, _⟩ := takeW_ok h1 m
        obtain ⟨b1, b2, _, _⟩ := takeW_ok h2 a3
        refine ⟨_, run_loadVar_agg ht (cs := (cs.toList.drop off).take (P.cellsOf t)) (fun j v hj => ?_) (by rw [List.length_take]; omega), ?_⟩
        · rw [cell_of hb]
          have hlt : j < P.cellsOf t := by
            have := (List.getElem?_eq_some_iff.1 hj).1
            rw [List.length_take] at this; omega
          rw [take_drop_get _ _ _ _ hlt] at hj
          simpa using hj
        · simp only [Mat]; exact ⟨_, rfl, by simpa using b2⟩
      · cases h
    · cases h
  · rename_i ht
    obtain ⟨v, g1, _, g3⟩ := cellAt_ok h m
    exact ⟨v, run_loadVar_one ht (by rw [cell_of hb]; simpa using g1), g3⟩
  · cases h

theorem live_of {H : Nat → AB} {l : List Nat} {id : Nat} {x : AB} (h : within H l id = x) (hx : x.live = true) : (H id).live = true := by rw [within_eq h hx]; exact hx

theorem loadA_ok (hH : Heap E η H D w) {l : List Nat} {t : TypeId} {a : AV} {v0 : Value} {r : R} (h : loadA P t a (within H l) fid = some r) (m : Mat E η a v0) (hs : r.side) :
    ∃ v, (Instr.loadAt t v0).run P w = .ok v w ∧ Concl E η η H w w fid r v := by
  unfold loadA at h
  split at h
  · rename_i id off
    simp only [Mat] at m
    obtain ⟨A, hA, rfl⟩ := m
    split at h
    · rename_i cl hcl
      split at h
      · rename_i v hv
        cases h
        obtain ⟨B, hB, hb, _⟩ := hH.hp id (live_of hcl rfl)
        rw [hA] at hB; cases hB
        rw [within_eq hcl rfl] at hb
        obtain ⟨h0, cs, ty, fr, h1, _, h3, h9⟩ := hb
        obtain ⟨u, g1, g2⟩ := partA_cells hv h3 h1
        exact ⟨u, by simpa [Instr.loadAt, Instr.sureAddr, h0] using g1, .pure g2 rfl⟩
      · cases h
    · cases h
  · rename_i id base j
    simp only [Mat] at m
    obtain ⟨A, hA, rfl⟩ := m
    split at h
    · rename_i cl ht hcl
      split at h
      · rename_i k n xs hv
        cases h
        obtain ⟨B, hB, hb, _⟩ := hH.hp id (live_of hcl rfl)
        rw [hA] at hB; cases hB
        rw [within_eq hcl rfl] at hb
        obtain ⟨h0, cs, ty, fr, h1, _, h3, h9⟩ := hb
        obtain ⟨g1, g2⟩ := vecAt_ok hv h3
        refine ⟨.int k (xs.getD j 0), ?_, .pure (by simp [Mat]) rfl⟩
        simp only [Instr.loadAt, Instr.sureAddr, Sem.run_bind, Sem.run_pure, Result.andThen_ok]
        refine run_loadVar_one ht ?_
        rw [cell_of h1, h0]
        have := g2 j hs
        simpa using this
      · cases h
    · cases h
  · rename_i id w' idx fld
    simp only [Mat] at m
    obtain ⟨A, hA, rfl⟩ := m
    split at h
    · rename_i rc hcl
      split at h
      · rename_i hw
        obtain ⟨B, hB, hb, _⟩ := hH.hp id (live_of hcl rfl)
        rw [hA] at hB; cases hB
        rw [within_eq hcl rfl] at hb
        obtain ⟨h4, hb⟩ := hb
        split at h
        · rename_i ht
          split at h
          · rename_i v hv
            cases h
            have hs : idx.v < rc.len := hs
            obtain ⟨cs, ty, fr, h1, _, h3, h5, h9⟩ := hb (by omega)
            obtain ⟨_, u, g2, g3⟩ := RC.get_ok (E := E) (η := η) hv hs
            refine ⟨u, ?_, .pure g3 rfl⟩
            simp only [Instr.loadAt, Instr.sureAddr, Sem.run_bind, Sem.run_pure, Result.andThen_ok]
            refine run_loadVar_one ht ?_
            rw [cell_of h1, ← hw]
            exact h5 _ _ g2
          · cases h
        · rename_i ht
          split at h
          · rename_i hf
            split at h
            · rename_i al hal
              cases h
              have hs : idx.v < rc.len := hs
              obtain ⟨cs, ty, fr, h1, _, h3, h5, h9⟩ := hb (by omega)
              have g := RC.elem_ok (E := E) (η := η) hal hs
              have hlen : ((rc.vals.drop (idx.v * rc.w)).take rc.w).length = P.cellsOf t := by
                rw [hf.2, ← hw, List.length_take, List.length_drop, RC.vals_length]
                have := Nat.mul_le_mul_right rc.w (show idx.v + 1 ≤ rc.len from hs)
                rw [Nat.add_mul] at this
                omega
              refine ⟨_, ?_, .pure (av := .a al) (v := .agg ((rc.vals.drop (idx.v * rc.w)).take rc.w).toArray) (by simp only [Mat]; exact ⟨_, rfl, by simpa using g⟩) rfl⟩
              simp only [Instr.loadAt, Instr.sureAddr, Sem.run_bind, Sem.run_pure, Result.andThen_ok]
              refine run_loadVar_agg ht (fun j u hj => ?_) hlen
              have hlt : j < rc.w := by
                have := (List.getElem?_eq_some_iff.1 hj).1
                rw [List.length_take] at this; omega
              rw [take_drop_get _ _ _ _ hlt] at hj
              rw [cell_of h1, hf.1, ← hw]
              have := h5 _ _ hj
              rw [Nat.add_zero, Nat.add_assoc]; exact this
            · cases h
          · cases h
        · cases h
      · cases h
    · cases h
  · rename_i rc idx fld
    simp only [Mat] at m
    obtain ⟨b, o, hx, rfl⟩ := m
    split at h
    · rename_i ht
      split at h
      · rename_i v hv
        cases h
        obtain ⟨_, u, g2, g3⟩ := RC.get_ok (E := E) (η := η) hv hs
        refine ⟨u, ?_, .pure g3 rfl⟩
        simp only [Instr.loadAt, Instr.sureAddr, Sem.run_bind, Sem.run_pure, Result.andThen_ok]
        exact run_loadVar_one ht (ext_cell hH hx g2)
      · cases h
    · rename_i ht
      split at h
      · rename_i hf
        split at h
        · rename_i al hal
          cases h
          have g := RC.elem_ok (E := E) (η := η) hal hs
          have hlen : ((rc.vals.drop (idx.v * rc.w)).take rc.w).length = P.cellsOf t := by
            rw [hf.2, List.length_take, List.length_drop, RC.vals_length]
            have := Nat.mul_le_mul_right rc.w (show idx.v + 1 ≤ rc.len from hs)
            rw [Nat.add_mul] at this
            omega
          refine ⟨_, ?_, .pure (av := .a al) (v := .agg ((rc.vals.drop (idx.v * rc.w)).take rc.w).toArray) (by simp only [Mat]; exact ⟨_, rfl, by simpa using g⟩) rfl⟩
          simp only [Instr.loadAt, Instr.sureAddr, Sem.run_bind, Sem.run_pure, Result.andThen_ok]
          refine run_loadVar_agg ht (fun j u hj => ?_) hlen
          have hlt : j < rc.w := by
            have := (List.getElem?_eq_some_iff.1 hj).1
            rw [List.length_take] at this; omega
          rw [take_drop_get _ _ _ _ hlt] at hj
          rw [hf.1]
          have := ext_cell hH hx hj
          rw [Nat.add_zero, Nat.add_assoc]; exact this
        · cases h
      · cases h
    · cases h
  · cases h

theorem cells_one {a : AV} {v : Value} (h : a.one = true) (m : Mat E η a v) : v.cells = #[v] := by
  have := one_ok h m
  cases v <;> first | rfl | (simp [Value.oneCell'] at this)

theorem storeA_ok (hH : Heap E η H D w) {l : List Nat} {t : TypeId} {a x : AV} {v0 v1 : Value} {r : R} (hi : ∃ i, P.info? t = some i) (h : storeA P t a x (within H l) fid = some r)
    (m : Mat E η a v0) (mx : Mat E η x v1) (hs : r.side) : ∃ w', (Instr.storeAt t v0 v1).run P w = .ok () w' ∧ Concl E η η H w w' fid r undef := by
  obtain ⟨i, hi⟩ := hi
  unfold storeA at h
  split at h
  · rename_i id off
    simp only [Mat] at m
    obtain ⟨A, hA, rfl⟩ := m
    split at h
    · rename_i cl hcl
      have hl := live_of hcl rfl
      obtain ⟨B, hB, hb, hlt⟩ := hH.hp id hl
      rw [hA] at hB; cases hB
      rw [within_eq hcl rfl] at hb
      obtain ⟨h0, cs, ty, fr, h1, h2, h3, h9⟩ := hb
      split at h
      · rename_i new
        simp only [Mat] at mx
        obtain ⟨ns, rfl, mn⟩ := mx
        split at h
        · rename_i hwd
          split at h
          · rename_i l' hl'
            cases h
            have hlen := matC_length mn
            obtain ⟨g1, g2⟩ := setSeg_ok hl' h3 mn
            have e1 : (Value.agg ns).cells = ns := rfl
            have hns : ns.size = widths new := by simpa using hlen
            obtain ⟨w', r1, r2, r3, r4, r5⟩ := run_storeVar' (v := .agg ns) (o := off) hi (by rw [e1, hns, hwd]) h1 h2.1 (by rw [e1, hns]; simpa using g1) (by rw [e1]; exact matC_one mn)
            refine ⟨w', by simpa [Instr.storeAt, Instr.sureAddr, h0] using r1, .set hA hl h2.2.2 (hlt h2.2.2).1 r2 r3 ⟨h0, _, _, _, r4, ?_, ?_, h9⟩ (by simp [Mat, unit, undef]) r5⟩
            · have : (cs.toList.take off ++ (Value.agg ns).cells.toList ++ cs.toList.drop (off + (Value.agg ns).cells.size)).toArray.size = cs.size := by
                simp [e1]; simp at g1; omega
              rw [this]; exact h2
            · simpa [e1, hns] using g2
          · cases h
        · cases h
      · split at h
        · rename_i ho
          split at h
          · rename_i l' hl'
            cases h
            have ec := cells_one ho.1 mx
            obtain ⟨g1, g2⟩ := setAt_ok hl' h3 mx
            obtain ⟨w', r1, r2, r3, r4, r5⟩ := run_storeVar' (v := v1) (o := off) hi (by rw [ec, ho.2]; rfl) h1 h2.1 (by rw [ec]; simp at g1 ⊢; omega) (by rw [ec]; simp [one_ok ho.1 mx])
            refine ⟨w', by simpa [Instr.storeAt, Instr.sureAddr, h0] using r1, .set hA hl h2.2.2 (hlt h2.2.2).1 r2 r3 ⟨h0, _, _, _, r4, ?_, ?_, h9⟩ (by simp [Mat, unit, undef]) r5⟩
            · have : (cs.toList.take off ++ v1.cells.toList ++ cs.toList.drop (off + v1.cells.size)).toArray.size = cs.size := by
                simp [ec]; simp at g1; omega
              rw [this]; exact h2
            · simp only [ec]
              have : cs.toList.take off ++ [v1] ++ cs.toList.drop (off + 1) = cs.toList.set off v1 := by
                rw [List.set_eq_take_append_cons_drop, if_pos g1]; simp
              simpa [this] using g2
          · cases h
        · cases h
    · cases h
  · rename_i id base j
    simp only [Mat] at m
    obtain ⟨A, hA, rfl⟩ := m
    split at h
    · rename_i cl hcl
      have hl := live_of hcl rfl
      obtain ⟨B, hB, hb, hlt⟩ := hH.hp id hl
      rw [hA] at hB; cases hB
      rw [within_eq hcl rfl] at hb
      obtain ⟨h0, cs, ty, fr, h1, h2, h3, h9⟩ := hb
      split at h
      · rename_i hc1
        split at h
        · rename_i k n xs k' e hv hx
          split at h
          · rename_i hk; subst hk
            split at h
            · rename_i l' hl'
              cases h
              have ev : v1 = .int k' e := by
                unfold avInt? at hx
                split at hx <;> first | (cases hx; simp only [Mat] at mx; exact mx) | cases hx
              subst ev
              obtain ⟨g1, g2⟩ := setVec_ok hv hl' hs h3
              have ec : (Value.int k' e).cells = #[.int k' e] := rfl
              obtain ⟨w', r1, r2, r3, r4, r5⟩ := run_storeVar' (v := .int k' e) (o := base + j) hi (by rw [ec, hc1]; rfl) h1 h2.1 (by rw [ec]; simp at g1 ⊢; omega) (by rw [ec]; simp [Value.oneCell'])
              refine ⟨w', by simpa [Instr.storeAt, Instr.sureAddr, h0] using r1, .set hA hl h2.2.2 (hlt h2.2.2).1 r2 r3 ⟨h0, _, _, _, r4, ?_, ?_, h9⟩ (by simp [Mat, unit, undef]) r5⟩
              · have : (cs.toList.take (base + j) ++ (Value.int k' e).cells.toList ++ cs.toList.drop (base + j + (Value.int k' e).cells.size)).toArray.size = cs.size := by
                  simp [ec]; simp at g1; omega
                rw [this]; exact h2
              · simp only [ec]
                have : cs.toList.take (base + j) ++ [.int k' e] ++ cs.toList.drop (base + j + 1) = cs.toList.set (base + j) (.int k' e) := by
                  rw [List.set_eq_take_append_cons_drop, if_pos g1]; simp
                simpa [this] using g2
            · cases h
          · cases h
        · cases h
      · cases h
    · cases h
  · rename_i id w0 idx fld
    simp only [Mat] at m
    obtain ⟨A, hA, rfl⟩ := m
    split at h
    · rename_i rc hcl
      have hl := live_of hcl rfl
      obtain ⟨B, hB, hb, hlt⟩ := hH.hp id hl
      rw [hA] at hB; cases hB
      rw [within_eq hcl rfl] at hb
      obtain ⟨h4, hb⟩ := hb
      split at h
      · rename_i hw
        split at h
        · rename_i rc' p hset
          cases h
          have hcap0 : 0 < A.cap := by have : idx.v < rc.len := hs.1; omega
          obtain ⟨cs, ty, fr, h1, h2, h3, h5, h9⟩ := hb hcap0
          obtain ⟨s1, s2, s3, s4⟩ := RC.set_ok hset hs.2 mx
          have hone : v1.oneCell' = true := by
            unfold RC.set at hset
            split at hset <;> first | (simp only [Mat] at mx; subst mx; rfl) | cases hset
          have ec : v1.cells = #[v1] := by cases v1 <;> first | rfl | (simp [Value.oneCell'] at hone)
          have hin : idx.v * rc.w + fld < rc.vals.length := by
            rw [RC.vals_length]
            have := Nat.mul_le_mul_right rc.w (show idx.v + 1 ≤ rc.len from hs.1)
            rw [Nat.add_mul] at this; omega
          have hcap := Nat.mul_le_mul_right rc.w h4
          have hvl := rc.vals_length
          have hoff : A.off + (idx.v * w0 + fld) < cs.size := by rw [← hw.1]; omega
          obtain ⟨w', r1, r2, r3, r4, r5⟩ := run_storeVar' (v := v1) (o := A.off + (idx.v * w0 + fld)) hi (by rw [ec, hw.2]; rfl) h1 h2 (by rw [ec]; simp; omega) (by rw [ec]; simp [hone])
          have e2 : cs.toList.take (A.off + (idx.v * w0 + fld)) ++ v1.cells.toList ++ cs.toList.drop (A.off + (idx.v * w0 + fld) + v1.cells.size) = cs.toList.set (A.off + (idx.v * w0 + fld)) v1 := by
            rw [List.set_eq_take_append_cons_drop, if_pos (by simpa using hoff), ec]; simp
          rw [e2] at r4
          refine ⟨w', by simpa [Instr.storeAt, Instr.sureAddr] using r1, .set hA hl hcap0 (hlt hcap0).1 r2 r3 ⟨by rw [s2]; exact h4, fun _ => ⟨_, _, _, r4, by simpa using h2, by rw [s3]; simpa using h3, ?_, h9⟩⟩ (by simp [Mat, unit, undef]) r5⟩
          intro j u hj
          rw [s1, ← hw.1] at *
          by_cases e : idx.v * rc.w + fld = j
          · subst e
            rw [List.getElem?_set_self hin] at hj
            cases hj
            simp [hoff]
          · rw [List.getElem?_set_ne e] at hj
            have := h5 j u hj
            simp only [List.getElem?_toArray]
            rw [List.getElem?_set_ne (by omega)]
            simpa using this
        · cases h
      · cases h
    · cases h
  · cases h
end
end Go.Proofs.YtkihnmpjpbfiaaaDoor.Ev
