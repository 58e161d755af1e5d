/- A function's contract out of the account of its body: the theorem. -/
import Derived.Test.YtkihnmpjpbfiaaaDoorEv21
set_option linter.unusedVariables false
set_option linter.unusedSimpArgs false
namespace Go.Proofs.YtkihnmpjpbfiaaaDoor.Ev
open Go

def ArgOk (H : Nat → AB) (ids : List Nat) (a b : AV) : Prop :=
  (∀ (E : Env) (η : Eta) v, Mat E η a v → Mat E η (b.ren (nth ids)) v) ∨
  (∃ l kind rc p, view (within H l) kind a = some (rc, p) ∧ p ∧ b = .x rc ∧ 0 < rc.w ∧ ∀ id, id ∈ refOf a → id ∉ ids)

def ArgsOk (H : Nat → AB) (ids : List Nat) : List AV → List AV → Prop
  | [], [] => True
  | a :: l, b :: r => ArgOk H ids a b ∧ ArgsOk H ids l r
  | _, _ => False

theorem argOk_same {H : Nat → AB} {ids : List Nat} {b : AV} : ArgOk H ids (b.ren (nth ids)) b := .inl fun _ _ _ h => h
theorem argOk_int {H : Nat → AB} {ids : List Nat} {a : AV} {k : IntKind} {e : Int} (h : avInt? a = some (k, e)) : ArgOk H ids a (.i k e) :=
  .inl fun E η v m => by
    have := avInt_ok h m
    subst this
    simp [AV.ren, Mat]
theorem argOk_bool {H : Nat → AB} {ids : List Nat} {a : AV} {b : Bool} (h : avBool? a = some b) : ArgOk H ids a (.c b) :=
  .inl fun E η v m => by
    have := avBool_ok h m
    subst this
    simp [AV.ren, Mat]

section
variable {E : Env} {η : Eta} {H : Nat → AB} {D : Nat → Prop} {w : World} {ids : List Nat}

theorem view_ext (hH : Heap E η H D w) {l : List Nat} {kind rc : RC} {a : AV} {v : Value} {p : Prop} (h : view (within H l) kind a = some (rc, p)) (hp : p) (hw0 : 0 < rc.w) (hr : ∀ id, id ∈ refOf a → id ∉ ids) (m : Mat E η a v) :
    Mat (envOf η H w ids) (eta0 η ids) (.x rc) v := by
  obtain ⟨base, cap, rfl, hle, hc⟩ := view_ok hH h hp m
  simp only [Mat, Ext]
  refine ⟨base, cap, rfl, hle, fun h0 => ?_⟩
  obtain ⟨b, o, rfl, hcell⟩ := hc h0
  refine ⟨b, o, rfl, ?_⟩
  have hv : 0 < rc.vals.length → b < w.heap.size := fun hpos => by
    obtain ⟨u, hu⟩ : ∃ u, rc.vals[0]? = some u := ⟨rc.vals[0], by simp [hpos]⟩
    have := hcell 0 u hu
    unfold World.cell? at this
    rcases Nat.lt_or_ge b w.heap.size with h | h
    · exact h
    · rw [Array.getElem?_eq_none h] at this; cases this
  have hw : 0 < rc.vals.length → ExtAt (envOf η H w ids) b o rc := fun hpos => by
    refine ⟨hv hpos, ?_, hcell⟩
    rintro ⟨id, A, h1, h2, h3, h4, h5⟩
    unfold view at h
    split at h
    · cases h
      simp only [Mat] at m; cases m
    · rename_i rc'
      cases h
      simp only [Mat, Ext] at m
      obtain ⟨a0, c0, e1, e2, e3⟩ := m
      cases e1
      obtain ⟨b', o', e4, e5⟩ := e3 h0
      cases e4
      obtain ⟨g1, g2, _⟩ := e5
      rcases sof_old (ids := ids) hH b ⟨id, A, h1, h2, h3, h4, h5⟩ with h | h
      · omega
      · exact g2 h
    · rename_i id' w' lo len
      have hne : id' ∉ ids := hr id' (by simp [refOf])
      simp only [Mat] at m
      obtain ⟨B, a0, c0, hB, e1, e2, e3, e4⟩ := m
      simp only [Value.slice.injEq] at e3
      obtain ⟨e31, e32, e33⟩ := e3
      subst e33
      have e5 := e4 (by omega)
      rw [← e31] at e5
      cases e5
      have hl' : (H id').live = true := by
        cases hwi : within H l id' with
        | gone => rw [hwi] at h; cases h
        | cells _ _ => exact live_of hwi rfl
        | row _ _ => exact live_of hwi rfl
        | it _ _ => rw [hwi] at h; cases h
        | lp _ _ _ _ => rw [hwi] at h; cases h
        | df => rw [hwi] at h; cases h
      have hcapB : 0 < B.cap := by omega
      exact hH.ds id id' A B (fun e => hne (e ▸ h1)) h2 hl' h3 hB h4 hcapB h5
    · cases h
  exact hw (by rw [rc.vals_length]; exact Nat.mul_pos h0 hw0)

theorem args_mat (hH : Heap E η H D w) : ∀ {as bs : List AV} {vs : List Value}, ArgsOk H ids as bs → fitL true ids.length bs = true → MatL E η as vs → MatL (envOf η H w ids) (eta0 η ids) bs vs
  | [], [], _, _, _, m => by simpa [MatL] using m
  | [], _ :: _, _, h, _, _ => h.elim
  | _ :: _, [], _, h, _, _ => h.elim
  | a :: l, b :: r, _, h, hf, m => by
    simp only [fitL, Bool.and_eq_true] at hf
    simp only [MatL] at m ⊢
    obtain ⟨v, vs, rfl, m1, m2⟩ := m
    refine ⟨v, vs, rfl, ?_, args_mat hH h.2 hf.2 m2⟩
    rcases h.1 with h1 | ⟨l, kind, rc, p, h1, h2, rfl, h3, h4⟩
    · exact core_mat hH hf.1 (h1 E η v m1)
    · exact view_ext hH h1 h2 h3 h4 m1

/-- How a contract is written: what comes in, what it asks, what it leaves. -/
structure Contr (na : Nat) (spec : FSpec) {σ : Type} (argsL : σ → List AV) (heapL : σ → List AB) (pre : σ → Prop) (val : σ → AV) (heapR : σ → List AB) : Prop where
  run : ∀ as H fid r, spec.run as (within H (spec.foot as fid)) fid = some r → ∃ (x : σ) (ids : List Nat) (side : Prop), ids.length = na ∧ ids.Nodup ∧ r = outR side (val x) (heapR x) ids fid ∧ (side → pre x ∧ ArgsOk H ids as (argsL x)) ∧
    (side → ∀ j, j < ids.length → (H (nth ids j)).wk (((heapL x).getD j .gone).ren (nth ids)) ∧ ((heapL x).getD j .gone).live = true)
  fitA : ∀ x, fitL true na (argsL x) = true ∧ (heapL x).length = na ∧ ∀ j, j < na → ((heapL x).getD j .gone).fit true na = true
  fitR : ∀ x, na ≤ (heapR x).length ∧ (val x).fit false (heapR x).length = true ∧ ∀ j, j < (heapR x).length → ((heapR x).getD j .gone).fit false (heapR x).length = true

/-- The same, where some of the blocks are named, and no longer read. -/
structure ContrG (na : Nat) (spec : FSpec) {σ : Type} (argsL : σ → List AV) (heapL : σ → List AB) (pre : σ → Prop) (val : σ → AV) (heapR : σ → List AB) : Prop where
  run : ∀ as H fid r, spec.run as (within H (spec.foot as fid)) fid = some r → ∃ (x : σ) (ids : List Nat) (side : Prop), ids.length = na ∧ ids.Nodup ∧ r = outR side (val x) (heapR x) ids fid ∧ (side → pre x ∧ ArgsOk H ids as (argsL x)) ∧
    (side → ∀ j, j < ids.length → ((H (nth ids j)).wk (((heapL x).getD j .gone).ren (nth ids)) ∧ ((heapL x).getD j .gone).live = true) ∨ ((heapL x).getD j .gone = .gone ∧ Anch H (nth ids j)))
  fitA : ∀ x, fitL true na (argsL x) = true ∧ (heapL x).length = na ∧ ∀ j, j < na → ((heapL x).getD j .gone).fit true na = true
  fitR : ∀ x, na ≤ (heapR x).length ∧ (val x).fit false (heapR x).length = true ∧ ∀ j, j < (heapR x).length → ((heapR x).getD j .gone).fit false (heapR x).length = true
theorem Contr.toG {na : Nat} {spec : FSpec} {σ : Type} {argsL : σ → List AV} {heapL : σ → List AB} {pre : σ → Prop} {val : σ → AV} {heapR : σ → List AB} (h : Contr na spec argsL heapL pre val heapR) : ContrG na spec argsL heapL pre val heapR where
  run := fun as H fid r hr => by
    obtain ⟨x, ids, side, h1, h2, h3, h4, h5⟩ := h.run as H fid r hr
    exact ⟨x, ids, side, h1, h2, h3, h4, fun hs j hj => .inl (h5 hs j hj)⟩
  fitA := h.fitA
  fitR := h.fitR

theorem ptrs_length : ∀ n, (ptrs n).length = n
  | 0 => rfl
  | n + 1 => by simp [ptrs, ptrs_length n]

theorem ptrs_mat {na : Nat} (h : ∀ j, j < na → ∃ A, η j = some A) : ∃ vs, MatL E η (ptrs na) vs := by
  induction na with
  | zero => exact ⟨[], by simp [ptrs, MatL]⟩
  | succ n ih =>
    obtain ⟨vs, m⟩ := ih fun j hj => h j (by omega)
    obtain ⟨A, hA⟩ := h n (by omega)
    exact ⟨vs ++ [.pointer (some ⟨A.blk, A.off + 0, none⟩)], matL_append m (by simp only [MatL, Mat]; exact ⟨_, _, rfl, ⟨A, hA, rfl⟩, rfl⟩)⟩

theorem fits_of_matL {l : List AV} {vs : List Value} {h : List AB} (m : MatL E η l vs) (hh : Heap E η (fun id => h.getD id .gone) (· < h.length) w) : Fits E ⟨l, h, []⟩ ⟨vs.toArray, []⟩ w η := by
  have len : ∀ {l : List AV} {vs : List Value}, MatL E η l vs → vs.length = l.length := by
    intro l
    induction l with
    | nil => intro vs h; simp only [MatL] at h; subst h; rfl
    | cons a l ih => intro vs h; simp only [MatL] at h; obtain ⟨v, r, rfl, _, h3⟩ := h; simp [ih h3]
  refine ⟨fun t => ?_, by simpa using len m, ⟨[], by simp [MatL], rfl⟩, hh⟩
  by_cases ht : t < l.length
  · obtain ⟨v, g1, g2⟩ := matL_get (i := t) (a := l[t]) m (by simp [ht])
    simp only [List.getD_eq_getElem?_getD, ht, List.getElem?_eq_getElem, Option.getD_some, Array.getD_eq_getD_getElem?, List.getElem?_toArray, g1]
    exact g2
  · rw [List.getD_eq_getElem?_getD, List.getElem?_eq_none (show l.length ≤ t by omega)]; simp [Mat]

theorem specOk_of_awpG {C : Ctx} {g : FuncId} {fn : Func} {c : Code} (hfn : C.P.funcs[g]? = some fn) (hb : fn.body = some c) {spec : FSpec} {σ : Type} {argsL : σ → List AV} {heapL : σ → List AB} {pre : σ → Prop} {val : σ → AV} {heapR : σ → List AB}
    (hs : ContrG C.na spec argsL heapL pre val heapR) (hsp : SpecsOk C.P C.sp) (hmix : C.P.follows .mixedOrders = true) {how : σ → Nat → How}
    (hw : ∀ x, pre x → awp C (how x) c ⟨argsL x ++ List.replicate (fn.ntmps - (argsL x).length) .u, heapL x, []⟩ (finA C.P fn C.na (val x) (heapR x))) : SpecOk C.P g spec := by
  intro E η H D w fid as args r ml hH hr hN hside
  obtain ⟨x, ids, side, hlen, nd, rfl, hpre, hat⟩ := hs.run as H fid r hr
  have hat := hat hside
  obtain ⟨hpre, hargs⟩ := hpre hside
  obtain ⟨f1, f2, f3⟩ := hs.fitA x
  obtain ⟨g1, g2, g3⟩ := hs.fitR x
  have hη : ∀ id, id ∈ ids → ∃ A, η id = some A := fun id hid => by
    obtain ⟨j, hj, rfl⟩ := mem_nth hid
    rcases hat j hj with h | h
    · exact anch_eta hH (.inl (by rw [AB.wk_live h.1, ren_live]; exact h.2))
    · exact anch_eta hH h.2
  have hstart := core_start hH nd (by rw [f2, hlen]) (fun j hj hl => by
    rcases hat j hj with h | h
    · exact h.1
    · rw [h.1] at hl; cases hl) (fun j hj => by rw [hlen]; exact f3 j (by omega))
  have ma := args_mat (ids := ids) hH hargs (by rw [hlen]; exact f1) ml
  have mlen : args.toList.length = (argsL x).length := by
    have len : ∀ {E : Env} {η : Eta} {l : List AV} {vs : List Value}, MatL E η l vs → vs.length = l.length := by
      intro E η l
      induction l with
      | nil => intro vs h; simp only [MatL] at h; subst h; rfl
      | cons a l ih => intro vs h; simp only [MatL] at h; obtain ⟨v, r, rfl, _, h3⟩ := h; simp [ih h3]
    exact len ma
  have mrep : ∀ k, MatL (envOf η H w ids) (eta0 η ids) (List.replicate k .u) (List.replicate k undef) := by
    intro k
    induction k with
    | zero => simp [MatL]
    | succ k ih => rw [List.replicate_succ, List.replicate_succ]; simp only [MatL, Mat]; exact ⟨_, _, rfl, trivial, ih⟩
  have hfits : Fits (envOf η H w ids) ⟨argsL x ++ List.replicate (fn.ntmps - (argsL x).length) .u, heapL x, []⟩ { tmps := args ++ Array.replicate (fn.ntmps - args.size) undef, defers := [] } w (eta0 η ids) := by
    have := fits_of_matL (matL_append ma (mrep (fn.ntmps - (argsL x).length))) hstart
    have e : (args.toList ++ List.replicate (fn.ntmps - (argsL x).length) undef).toArray = args ++ Array.replicate (fn.ntmps - args.size) undef := by
      apply Array.ext'
      rw [← mlen]; simp
    rw [e] at this
    exact this
  rw [← callsIn_wide (n := 0)]
  refine callsIn_of_wp_marks hfn hb trivial ?_
  have hna : ∀ j A, (envOf η H w ids).an j = some A → j < C.na := fun j A hj => by
    have : eta0 η ids j = some A := hj
    unfold eta0 at this
    split at this
    · omega
    · cases this
  refine awp_ok (C := C) (ro := none) hna (fun _ => rfl) hsp hmix c _ _ _ w _ _ (hw x hpre) hfits ?_
  intro e s' a' w' η' hk hf'
  have main : takeA s'.ds s'.heap ≠ none → (match takeA s'.ds s'.heap with
      | some h => match resAll C.P ⟨s'.tmps, h, []⟩ fn.results.toList with
        | some vs => leSt C.na ⟨resV vs :: ptrs C.na, h, []⟩ ⟨val x :: ptrs C.na, heapR x, []⟩
        | none => False
      | none => False) → LeavesInM Fence.wide 0 C.P fn a'.tmps (fun e w' => ∃ v, e = .returned v ∧ ∃ η', Concl E η η' H w w' fid (outR side (val x) (heapR x) ids fid) v) a'.defers .returning w' := by
    intro _ hk
    split at hk
    · rename_i h ht
      split at hk
      · rename_i vs hvs
        refine leaves_ok s'.ds rfl hf' ht fun a2 w2 e2 hf2 => ?_
        obtain ⟨v, r1, r2⟩ := results_ok hf2 hvs
        rw [e2] at r1
        refine ⟨v, r1, v, rfl, ?_⟩
        obtain ⟨pv, mp⟩ := ptrs_mat (E := envOf η H w ids) (η := η') (na := C.na) fun j hj => by
          obtain ⟨A, hA⟩ := hη _ (nth_mem (ids := ids) (j := j) (by omega))
          exact ⟨A, hf2.hp.an j A (by show eta0 η ids j = some A; simp [eta0, show j < ids.length by omega]; exact hA)⟩
        have hf3 : Fits (envOf η H w ids) ⟨resV vs :: ptrs C.na, h, []⟩ ⟨(v :: pv).toArray, []⟩ w2 η' :=
          fits_of_matL (by simp only [MatL]; exact ⟨v, pv, rfl, r2, mp⟩) hf2.hp
        obtain ⟨η2, hf4⟩ := leSt_ok hna hf3 hk
        have mv := hf4.tm 0
        exact core_end hH nd hη (by omega) hf4.hp (fun id h1 h2 => hN id h1 h2) (by simpa using mv) g2 g3
      · exact hk.elim
    · exact hk.elim
  cases e with
  | exit id => exact hk.elim
  | norm =>
    refine main (fun h => ?_) hk
    simp only [finA, h] at hk
  | ret =>
    refine main (fun h => ?_) hk
    simp only [finA, h] at hk

theorem specOk_of_awp {C : Ctx} {g : FuncId} {fn : Func} {c : Code} (hfn : C.P.funcs[g]? = some fn) (hb : fn.body = some c) {spec : FSpec} {σ : Type} {argsL : σ → List AV} {heapL : σ → List AB} {pre : σ → Prop} {val : σ → AV} {heapR : σ → List AB}
    (hs : Contr C.na spec argsL heapL pre val heapR) (hsp : SpecsOk C.P C.sp) (hmix : C.P.follows .mixedOrders = true) {how : σ → Nat → How}
    (hw : ∀ x, pre x → awp C (how x) c ⟨argsL x ++ List.replicate (fn.ntmps - (argsL x).length) .u, heapL x, []⟩ (finA C.P fn C.na (val x) (heapR x))) : SpecOk C.P g spec :=
  specOk_of_awpG hfn hb hs.toG hsp hmix hw
end
end Go.Proofs.YtkihnmpjpbfiaaaDoor.Ev
