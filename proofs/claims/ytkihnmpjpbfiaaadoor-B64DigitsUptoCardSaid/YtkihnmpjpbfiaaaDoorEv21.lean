/- A function's contract out of the account of its body. -/
import Derived.Test.YtkihnmpjpbfiaaaDoorEv20
import Derived.RangeFuncLeaves
import Derived.RangeFuncSeq
set_option linter.unusedVariables false
set_option linter.unusedSimpArgs false
namespace Go.Proofs.YtkihnmpjpbfiaaaDoor.Ev
open Go

/-! ### What a function returns -/
def resA1 (P : Program) (s : St) : ResultVar → Option AV
  | .tmp t => some (s.tmps.getD t .u)
  | .cell a t => match s.tmps.getD a .u with
    | .p id off => match s.heap.getD id .gone with
      | .cells _ l => partA P t l off
      | _ => none
    | _ => none
def resAll (P : Program) (s : St) : List ResultVar → Option (List AV)
  | [] => some []
  | r :: l => match resA1 P s r with
    | some a => match resAll P s l with
      | some r => some (a :: r)
      | none => none
    | none => none
def resV : List AV → AV
  | [a] => a
  | l => .t l

def ptrs : Nat → List AV
  | 0 => []
  | n + 1 => ptrs n ++ [.p n 0]

/-- The marks of the ranges over functions are taken. -/
def takeA : List AV → List AB → Option (List AB)
  | [], h => some h
  | .p id 0 :: r, h => match h.getD id .gone with
    | .df => takeA r (h.set id .gone)
    | _ => none
  | _ :: _, _ => none

def finA (P : Program) (fn : Func) (n : Nat) (val : AV) (hr : List AB) (e : Ex) (s : St) : Prop :=
  match e with
  | .exit _ => False
  | _ => match takeA s.ds s.heap with
    | some h => match resAll P ⟨s.tmps, h, []⟩ fn.results.toList with
      | some vs => leSt n ⟨resV vs :: ptrs n, h, []⟩ ⟨val :: ptrs n, hr, []⟩
      | none => False
    | none => False

section
variable {P : Program} {E : Env} {η : Eta} {s : St} {a : Act} {w : World}

theorem resA1_ok (hf : Fits E s a w η) {r : ResultVar} {v : AV} (h : resA1 P s r = some v) : ∃ u, (match r with
    | .tmp t => pure (a.tmps.getD t undef)
    | .cell c t => do loadVar t (← asAddr (a.tmps.getD c undef)) : Sem Value).run P w = .ok u w ∧ Mat E η v u := by
  cases r with
  | tmp t => simp only [resA1] at h; cases h; exact ⟨_, rfl, hf.tm t⟩
  | cell c t =>
    simp only [resA1] at h
    split at h
    · rename_i id off hp
      have hm := hf.tm c
      rw [hp] at hm
      simp only [Mat] at hm
      obtain ⟨A, hA, hv⟩ := hm
      split at h
      · rename_i ty l hl
        have hlive : ((fun id => s.heap.getD id AB.gone) id).live = true := by simp only [hl]; rfl
        obtain ⟨B, hB, hb, _⟩ := hf.hp.hp id hlive
        rw [hA] at hB; cases hB
        simp only [hl] at hb
        obtain ⟨h0, cs, t', fr, h1, _, h3, _⟩ := hb
        obtain ⟨u, g1, g2⟩ := partA_cells (P := P) h h3 h1
        refine ⟨u, ?_, g2⟩
        simp only [hv, asAddr, Sem.run_bind, Sem.run_pure, Result.andThen_ok, h0, Nat.zero_add]
        exact g1
      · cases h
    · cases h

theorem resAll_ok (hf : Fits E s a w η) : ∀ {l : List ResultVar} {vs : List AV}, resAll P s l = some vs → ∃ us, (l.mapM fun r => match r with
    | .tmp t => pure (a.tmps.getD t undef)
    | .cell c t => do loadVar t (← asAddr (a.tmps.getD c undef)) : Sem (List Value)).run P w = .ok us w ∧ MatL E η vs us
  | [], vs, h => by simp only [resAll] at h; cases h; exact ⟨[], by simp, by simp [MatL]⟩
  | r :: l, vs, h => by
    simp only [resAll] at h
    split at h
    · rename_i x hx
      split at h
      · rename_i y hy
        cases h
        obtain ⟨u, h1, h2⟩ := resA1_ok hf hx
        obtain ⟨us, h3, h4⟩ := resAll_ok hf hy
        refine ⟨u :: us, ?_, by simp only [MatL]; exact ⟨u, us, rfl, h2, h4⟩⟩
        simp only [List.mapM_cons, Sem.run_bind, h1, Result.andThen_ok, h3, Sem.run_pure]
      · cases h
    · cases h

theorem results_ok (hf : Fits E s a w η) {fn : Func} {vs : List AV} (h : resAll P s fn.results.toList = some vs) : ∃ u, (results fn a.tmps).run P w = .ok u w ∧ Mat E η (resV vs) u := by
  obtain ⟨us, h1, h2⟩ := resAll_ok (P := P) hf h
  have e : (results fn a.tmps).run P w = .ok (if h : us.toArray.size = 1 then us.toArray[0] else .tuple us.toArray) w := by
    unfold results
    rw [Array.mapM_eq_mapM_toList]
    have hmap : ∀ X : Sem (List Value), X.run P w = .ok us w → (List.toArray <$> X : Sem (Array Value)).run P w = .ok us.toArray w := by
      intro X hX
      show (X >>= fun x => pure x.toArray).run P w = _
      simp only [Sem.run_bind, hX, Result.andThen_ok, Sem.run_pure]
    rw [Sem.run_bind]
    exact (congrArg (fun r : Result (Array Value) => r.andThen fun vs w' => (pure (if h : vs.size = 1 then vs[0] else .tuple vs) : Sem Value).run P w') (hmap _ h1)).trans rfl
  refine ⟨_, e, ?_⟩
  cases us with
  | nil =>
    cases vs with
    | nil => simp [resV, Mat, MatL]
    | cons _ _ => simp [MatL] at h2
  | cons u r =>
    cases vs with
    | nil => simp [MatL] at h2
    | cons x l =>
      have h2' := h2
      simp only [MatL] at h2
      obtain ⟨_, _, e1, h3, h4⟩ := h2
      cases e1
      cases r with
      | nil =>
        cases l with
        | nil => simpa [resV] using h3
        | cons _ _ => simp [MatL] at h4
      | cons u2 r2 =>
        cases l with
        | nil => simp [MatL] at h4
        | cons x2 l2 => simp [resV, Mat]; exact h2'

/-! ### Leaving -/
theorem fits_take {D : Deferred} (hf : Fits E s a w η) {id : Nat} {r : List AV} (hd : s.ds = .p id 0 :: r) (hl : s.heap.getD id .gone = .df) :
    ∃ b ds, a.defers = { target := .collected b, args := #[] } :: ds ∧ ∃ w', (Instr.takeDeferred b).run P w = .ok [] w' ∧ Fits E ⟨s.tmps, s.heap.set id .gone, r⟩ { a with defers := ds } w' η := by
  obtain ⟨vs, m, hv⟩ := hf.df
  rw [hd] at m
  simp only [MatL, Mat] at m
  obtain ⟨v, rest, rfl, ⟨A, hA, rfl⟩, m2⟩ := m
  have hlive : ((fun id => s.heap.getD id AB.gone) id).live = true := by simp only [hl]; rfl
  obtain ⟨B, hB, hb, hc⟩ := hf.hp.hp id hlive
  rw [hA] at hB; cases hB
  simp only [hl] at hb
  obtain ⟨h0, hcap, hobj⟩ := hb
  refine ⟨A.blk, _, hv, _, run_takeDeferred hobj, fun t => hf.tm t, hf.sz, ⟨rest, m2, rfl⟩, ?_⟩
  have hlt : id < s.heap.length := by
    rcases Nat.lt_or_ge id s.heap.length with h | h
    · exact h
    · rw [List.getD_eq_getElem?_getD, List.getElem?_eq_none h] at hl; cases hl
  have hcon : Concl E η η (fun id => s.heap.getD id .gone) w (w.putObj A.blk (.deferred none)) s.heap.length ⟨True, .u, [(id, .gone)], s.heap.length⟩ undef :=
    .set hA hlive hcap (hc hcap).1 (by simp [World.putObj]) (fun b hb => World.putObj_heap_other hb) (by simp [BlkOk]) (by simp [Mat])
  have := hf.hp.step (D' := (· < (s.heap.set id AB.gone).length)) hcon (fun j hj => by simpa using hj) (fun j h1 h2 => by simp at h2; omega)
  have e : after (fun id => s.heap.getD id AB.gone) [(id, AB.gone)] = fun j => (s.heap.set id AB.gone).getD j .gone := by
    funext j
    simp only [after, lookup, List.getD_eq_getElem?_getD]
    by_cases hj : id = j
    · subst hj; simp [hlt]
    · simp [hj]
  rw [e] at this
  exact this

theorem leaves_ok {F : Fence} {m : Nat} {fn : Func} {R : Ending → World → Prop} : ∀ (ds : List AV) {s : St} {a : Act} {w : World} {h : List AB}, s.ds = ds → Fits E s a w η → takeA ds s.heap = some h →
    (∀ a' w', a'.tmps = a.tmps → Fits E ⟨s.tmps, h, []⟩ a' w' η → ∃ v, (results fn a.tmps).run P w' = .ok v w' ∧ R (.returned v) w') → LeavesInM F m P fn a.tmps R a.defers .returning w
  | [], s, a, w, h, hd, hf, ht, hR => by
    simp only [takeA] at ht; cases ht
    obtain ⟨vs, m, hv⟩ := hf.df
    rw [hd] at m
    simp only [MatL] at m; subst m
    simp only [List.map_nil] at hv
    rw [hv]
    obtain ⟨v, h1, h2⟩ := hR a w rfl (by rw [← hd]; exact hf)
    exact ⟨v, h1, h2⟩
  | x :: r, s, a, w, h, hd, hf, ht, hR => by
    unfold takeA at ht
    split at ht
    · rename_i e; cases e
    · rename_i id r' h' e
      cases e
      split at ht
      · rename_i hl
        obtain ⟨b, ds, e1, w', e2, e3⟩ := fits_take (D := default) (P := P) hf hd hl
        rw [e1]
        exact ⟨by simp, .inl ⟨b, w', rfl, e2, leaves_ok r (a := { a with defers := ds }) rfl e3 ht hR⟩⟩
      · cases ht
    · cases ht
end
end Go.Proofs.YtkihnmpjpbfiaaaDoor.Ev
