/- The contract of a round out of the account of the loop's body. -/
import Derived.Test.YtkihnmpjpbfiaaaDoorEv22
set_option linter.unusedVariables false
set_option linter.unusedSimpArgs false
namespace Go.Proofs.YtkihnmpjpbfiaaaDoor.Ev
open Go

def setArgs : List AV → List Tmp → List AV → List AV
  | l, t :: ts, a :: as => setArgs (l.set t a) ts as
  | l, _, _ => l

def roundEnd (s : St) (j : Option Code) (st : LoopState) (K : Bool → List AB → Prop) : Prop :=
  match s.heap.getD 0 .gone with
  | .lp _ _ tm k => K j.isNone (s.heap.set 0 (.lp st j tm k))
  | _ => False

def roundA (C : Ctx) (how : Nat → How) (key : LKey) (tms args : List AV) (heap : List AB) (K : Bool → List AB → Prop) : Prop :=
  awp C how key.asg ⟨setArgs tms key.ps.toList args, heap, []⟩ fun e s1 => match e with
    | .norm => match s1.heap.getD 0 .gone with
      | .lp .ready pend tm k => forceL (s1.heap.set 0 (.lp .busy pend tm k)) fun h => awp C how key.body ⟨s1.tmps, h, s1.ds⟩ fun e s2 => match e with
        | .norm => roundEnd s2 none .ready K
        | .ret => roundEnd s2 (some .ret) .done K
        | .exit id => roundEnd s2 (some (.exit id)) .done K
      | _ => False
    | _ => False

section
variable {E : Env} {η : Eta} {H : Nat → AB} {D : Nat → Prop} {w : World}

theorem matL_set : ∀ {l : List AV} {vs : List Value} (t : Nat) {a : AV} {v : Value}, MatL E η l vs → Mat E η a v → MatL E η (l.set t a) (vs.set t v)
  | [], _, _, _, _, m, _ => by simp only [MatL] at m; subst m; simp [MatL]
  | b :: l, _, t, a, v, m, h => by
    simp only [MatL] at m
    obtain ⟨u, r, rfl, h1, h2⟩ := m
    cases t with
    | zero => simp only [List.set_cons_zero, MatL]; exact ⟨v, r, rfl, h, h2⟩
    | succ t => simp only [List.set_cons_succ, MatL]; exact ⟨u, _, rfl, h1, matL_set t h2 h⟩

theorem setArgs_mat : ∀ {ts : List Tmp} {as : List AV} {us : List Value} {l : List AV} {tm : Array Value}, MatL E η l tm.toList → MatL E η as us →
    MatL E η (setArgs l ts as) ((ts.zip us).foldl (fun tmps (t, a) => tmps.setIfInBounds t a) tm).toList
  | [], as, us, l, tm, m, _ => by cases as <;> simpa [setArgs] using m
  | t :: ts, [], us, l, tm, m, h => by simp only [MatL] at h; subst h; simpa [setArgs] using m
  | t :: ts, a :: as, us, l, tm, m, h => by
    simp only [MatL] at h
    obtain ⟨v, r, rfl, h1, h2⟩ := h
    simp only [setArgs, List.zip_cons_cons, List.foldl_cons]
    exact setArgs_mat (by rw [Array.toList_setIfInBounds]; exact matL_set t m h1) h2

/-- How a round's contract is written. -/
structure RContr (na : Nat) (key : LKey) (spec : FSpec) {σ : Type} (tmsL argsL : σ → List AV) (heapL : σ → List AB) (pre : σ → Prop) (val : σ → AV) (heapR : σ → List AB) : Prop where
  run : ∀ id as H fid r, spec.run (.yl id :: as) (within H (spec.foot (.yl id :: as) fid)) fid = some r → ∃ (x : σ) (ids : List Nat) (side : Prop), ids.length = na ∧ 0 < na ∧ nth ids 0 = id ∧ ids.Nodup ∧ r = outR side (val x) (heapR x) ids fid ∧
    (side → pre x ∧ ArgsOk H ids as (argsL x) ∧ (heapL x).getD 0 .gone = .lp .ready none (tmsL x) key ∧
    (∀ j, j < ids.length → (H (nth ids j)).wk (((heapL x).getD j .gone).ren (nth ids)) ∧ ((heapL x).getD j .gone).live = true))
  fitA : ∀ x, (argsL x).length = key.ps.size ∧ fitL true na (argsL x) = true ∧ (heapL x).length = na ∧ ∀ j, j < na → ((heapL x).getD j .gone).fit true na = true
  fitR : ∀ x, na ≤ (heapR x).length ∧ (val x).fit false (heapR x).length = true ∧ ∀ j, j < (heapR x).length → ((heapR x).getD j .gone).fit false (heapR x).length = true

theorem matL_len : ∀ {l : List AV} {vs : List Value}, MatL E η l vs → vs.length = l.length
  | [], _, h => by simp only [MatL] at h; subst h; rfl
  | a :: l, _, h => by simp only [MatL] at h; obtain ⟨v, r, rfl, _, h3⟩ := h; simp [matL_len h3]

theorem yieldOk_of_awp {C : Ctx} (htop : C.top = false) {key : LKey} {spec : FSpec} {σ : Type} {tmsL argsL : σ → List AV} {heapL : σ → List AB} {pre : σ → Prop} {val : σ → AV} {heapR : σ → List AB}
    (hs : RContr C.na key spec tmsL argsL heapL pre val heapR) (hsp : SpecsOk C.P C.sp) (hmix : C.P.follows .mixedOrders = true) {how : σ → Nat → How}
    (hw : ∀ x, pre x → roundA C (how x) key (tmsL x) (argsL x) (heapL x) fun b h => leSt C.na ⟨.b b :: ptrs C.na, h, []⟩ ⟨val x :: ptrs C.na, heapR x, []⟩) : YieldOk C.P spec := by
  intro E η H D w fid id A as args r hA ml hH hr hN hside
  obtain ⟨x, ids, side, hlen, hpos, hid, nd, rfl, hpre⟩ := hs.run id as H fid r hr
  obtain ⟨hpre, hargs, hlp, hat⟩ := hpre hside
  obtain ⟨f0, f1, f2, f3⟩ := hs.fitA x
  obtain ⟨g1, g2, g3⟩ := hs.fitR x
  have hlive : ∀ id, id ∈ ids → (H id).live = true := fun id hid => by
    obtain ⟨j, hj, rfl⟩ := mem_nth hid
    rw [AB.wk_live (hat j hj).1, ren_live]; exact (hat j hj).2
  have hstart := core_start hH nd (by rw [f2, hlen]) (fun j hj _ => (hat j hj).1) (fun j hj => by rw [hlen]; exact f3 j (by omega))
  have ma := args_mat (ids := ids) hH hargs (by rw [hlen]; exact f1) ml
  -- the record
  have h0 : eta0 η ids 0 = some A := by
    have : 0 < ids.length := by omega
    simp only [eta0, this, if_true, hid]; exact hA
  have l0 : ((fun j => (heapL x).getD j AB.gone) 0).live = true := by simp only [hlp]; rfl
  obtain ⟨B, hB, hb, hc⟩ := hstart.hp 0 l0
  rw [h0] at hB; cases hB
  simp only [hlp] at hb
  obtain ⟨_, hcap, rec, r1, r2, r3, r4, r5, r6, r7⟩ := hb
  have hsz : args.size = rec.params.size := by
    rw [r4, ← f0]
    have := matL_len ma
    simpa using this
  refine ⟨rec.fn, _, rec.assign, rec.body, run_yield r1 hsz, fun m => ?_⟩
  have mt : MatL (envOf η H w ids) (eta0 η ids) (setArgs (tmsL x) key.ps.toList (argsL x)) ((rec.params.zip args).foldl (fun tmps (t, a) => tmps.setIfInBounds t a) rec.tmps).toList := by
    have := setArgs_mat (ts := key.ps.toList) r7 ma
    rw [← r4] at this ⊢
    rw [← Array.foldl_toList, Array.toList_zip]
    exact this
  have hfits := fits_of_matL mt hstart
  have hna : ∀ j A, (envOf η H w ids).an j = some A → j < C.na := fun j A hj => by
    have : eta0 η ids j = some A := hj
    unfold eta0 at this
    split at this
    · omega
    · cases this
  have htop' : ∀ l, C.top = true → (some l : Option Nat) = none := fun l h => by rw [htop] at h; cases h
  refine roundIn_of_wpIn (F := Fence.wide) trivial ?_
  have hw := hw x hpre
  unfold roundA at hw
  rw [r5, r6]
  refine awp_ok (C := C) (ro := some A.blk) (E := envOf η H w ids) hna (htop' _) hsp hmix key.asg _ _ _ w _ _ hw hfits ?_
  intro e s1 a1 w1 η1 hk hf1
  cases e with
  | exit id => exact hk.elim
  | ret => exact hk.elim
  | norm =>
    simp only at hk
    split at hk
    case h_2 => exact hk.elim
    rename_i pend tm k hl1
    rw [forceL_eq] at hk
    have live1 : (s1.heap.getD 0 .gone).live = true := by rw [hl1]; rfl
    have an1 : η1 0 = some A := hf1.hp.an 0 A h0
    obtain ⟨B, hB, hb, _⟩ := hf1.hp.hp 0 live1
    rw [an1] at hB; cases hB
    simp only [hl1] at hb
    obtain ⟨q0, q1, rec1, p1, p2, p3, p4, p5, p6, p7⟩ := hb
    have hlt1 : A.blk < w1.heap.size := (Array.getElem?_eq_some_iff.1 p1).1
    refine ⟨_, run_beginRound p1 p2, ?_⟩
    have hf1' := fits_set (o := .loop { rec1 with state := .busy }) (ab := .lp .busy pend tm k) hf1 an1 live1 q1 (by
      simp only [BlkOk]
      exact ⟨q0, q1, _, World.putObj_heap_same hlt1, rfl, p3, p4, p5, p6, p7⟩)
    refine awp_ok (C := C) (ro := some A.blk) (E := envOf η H w ids) hna (htop' _) hsp hmix key.body _ _ _ _ _ _ hk hf1' ?_
    intro e s2 a2 w2 η2 hk2 hf2
    have fin : ∀ (j : Option Code) (st : LoopState), st = (if j.isNone then .ready else .done) → roundEnd s2 j st (fun b h => leSt C.na ⟨.b b :: ptrs C.na, h, []⟩ ⟨val x :: ptrs C.na, heapR x, []⟩) →
        ∃ v w', (Instr.endRound A.blk j).run C.P w2 = .ok v w' ∧ ∃ v', Ending.returned v = .returned v' ∧ ∃ η', Concl E η η' H w w' fid (outR side (val x) (heapR x) ids fid) v' := by
      intro j st hst hr
      unfold roundEnd at hr
      split at hr
      case h_2 => exact hr.elim
      rename_i st2 pend2 tm2 k2 hl2
      have live2 : (s2.heap.getD 0 .gone).live = true := by rw [hl2]; rfl
      have an2 : η2 0 = some A := hf2.hp.an 0 A h0
      obtain ⟨B, hB, hb, _⟩ := hf2.hp.hp 0 live2
      rw [an2] at hB; cases hB
      simp only [hl2] at hb
      obtain ⟨_, _, rec2, u1, u2, u3, u4, u5, u6, u7⟩ := hb
      have hlt2 : A.blk < w2.heap.size := (Array.getElem?_eq_some_iff.1 u1).1
      refine ⟨_, _, run_endRound j u1, _, rfl, ?_⟩
      rw [← hst]
      have hf3 := fits_set (o := .loop { rec2 with state := st, pending := j }) (ab := .lp st j tm2 k2) hf2 an2 live2 q1 (by
        simp only [BlkOk]
        exact ⟨q0, q1, _, World.putObj_heap_same hlt2, rfl, rfl, u4, u5, u6, u7⟩)
      obtain ⟨pv, mp⟩ := ptrs_mat (E := envOf η H w ids) (η := η2) (na := C.na) fun j hj => by
        obtain ⟨A', hA', _⟩ := hH.hp _ (hlive _ (nth_mem (ids := ids) (j := j) (by omega)))
        exact ⟨A', hf2.hp.an j A' (by show eta0 η ids j = some A'; simp [eta0, show j < ids.length by omega]; exact hA')⟩
      have hf4 : Fits (envOf η H w ids) ⟨.b j.isNone :: ptrs C.na, s2.heap.set 0 (.lp st j tm2 k2), []⟩ ⟨(.bool j.isNone :: pv).toArray, []⟩ _ η2 :=
        fits_of_matL (by simp only [MatL, Mat]; exact ⟨_, pv, rfl, rfl, mp⟩) hf3.hp
      obtain ⟨η3, hf5⟩ := leSt_ok hna hf4 hr
      have mv := hf5.tm 0
      exact core_end hH nd (fun id hid => anch_eta hH (.inl (hlive id hid))) (by omega) hf5.hp (fun id h1 h2 => hN id h1 h2) (by simpa using mv) g2 g3
    cases e with
    | norm => exact fin none .ready rfl hk2
    | ret => exact fin (some .ret) .done rfl hk2
    | exit id => exact fin (some (.exit id)) .done rfl hk2
end
end Go.Proofs.YtkihnmpjpbfiaaaDoor.Ev
