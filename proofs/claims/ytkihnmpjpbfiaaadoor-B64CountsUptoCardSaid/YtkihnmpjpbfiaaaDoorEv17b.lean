/- A range over a function. -/
import Derived.Test.YtkihnmpjpbfiaaaDoorEv17
import Derived.RangeFuncIn
import Derived.RangeFuncRecord
set_option linter.unusedVariables false
set_option linter.unusedSimpArgs false
namespace Go.Proofs.YtkihnmpjpbfiaaaDoor.Ev
open Go

/-- Behind the statement: the jump that a round has left, if any; the state. -/
def rangeA (C : Ctx) (s : St) (gv : AV) (key : LKey) (K : Option Code → St → Prop) : Prop :=
  match gv with
  | .f (.func g) [] cap => if g = yieldKey then False else match C.sp g with
    | some sp => match (C.P.funcs[g]?).bind (·.body) with
      | some _ => match sp.run (.yl (s.heap.length + 1) :: cap) (within (fun id => (s.heap ++ [AB.df] ++ [AB.lp .ready none s.tmps key]).getD id .gone) (sp.foot (.yl (s.heap.length + 1) :: cap) (s.heap.length + 2))) (s.heap.length + 2) with
        | some ⟨side, _, upd, nxt⟩ => if nodupB upd = true ∧ (putAll (s.heap ++ [AB.df] ++ [AB.lp .ready none s.tmps key]) upd).length = nxt then
            side ∧ forceL (putAll (s.heap ++ [AB.df] ++ [AB.lp .ready none s.tmps key]) upd) fun h2 => match h2.getD (s.heap.length + 1) .gone with
              | .lp st pend _ _ => match st with
                | .busy => False
                | .ready => K pend ⟨s.tmps, h2.set (s.heap.length + 1) .gone, .p s.heap.length 0 :: s.ds⟩
                | .done => K pend ⟨s.tmps, h2.set (s.heap.length + 1) .gone, .p s.heap.length 0 :: s.ds⟩
                | .exhausted => K pend ⟨s.tmps, h2.set (s.heap.length + 1) .gone, .p s.heap.length 0 :: s.ds⟩
              | _ => False
          else False
        | none => False
      | none => False
    | none => False
  | _ => False

section
variable {C : Ctx} {E : Env} {m : Nat} {s : St} {a : Act} {w : World} {η : Eta}

theorem fits_new (hf : Fits E s a w η) {o : Obj} {ab : AB} (hb : BlkOk E η (w.alloc o) ⟨w.heap.size, 0, 1⟩ ab) :
    Fits E ⟨s.tmps, s.heap ++ [ab], s.ds⟩ a (w.alloc o) (upd η s.heap.length ⟨w.heap.size, 0, 1⟩) := by
  have hη : η s.heap.length = none := by
    cases h : η s.heap.length with
    | none => rfl
    | some A => exact absurd (hf.hp.dm _ A h) (Nat.lt_irrefl _)
  have hc : Concl E η (upd η s.heap.length ⟨w.heap.size, 0, 1⟩) (fun id => s.heap.getD id .gone) w (w.alloc o) s.heap.length ⟨True, .u, [(s.heap.length, ab)], s.heap.length + 1⟩ undef :=
    .fresh (cap := 1) hη rfl hb (by simp [Mat])
  have e : putAll s.heap [(s.heap.length, ab)] = s.heap ++ [ab] := by simp [putAll, putB]
  have := fits_put (d := none) hf hc rfl rfl (by simp only; rw [e]; simp) (val := .u) (by simp [Mat])
  simp only [setD, Act.put] at this
  rw [e] at this
  exact this

theorem fits_set (hf : Fits E s a w η) {id : Nat} {A : RA} {o : Obj} {ab : AB} (hA : η id = some A) (hl : (s.heap.getD id .gone).live = true) (hcap : 0 < A.cap) (hb : BlkOk E η (w.putObj A.blk o) A ab) :
    Fits E ⟨s.tmps, s.heap.set id ab, s.ds⟩ a (w.putObj A.blk o) η := by
  have hlt : id < s.heap.length := by
    rcases Nat.lt_or_ge id s.heap.length with h | h
    · exact h
    · rw [List.getD_eq_getElem?_getD, List.getElem?_eq_none h] at hl; cases hl
  obtain ⟨B, hB, _, hc⟩ := hf.hp.hp id hl
  rw [hA] at hB; cases hB
  have hcon : Concl E η η (fun id => s.heap.getD id .gone) w (w.putObj A.blk o) s.heap.length ⟨True, .u, [(id, ab)], s.heap.length⟩ undef :=
    .set hA hl hcap (hc hcap).1 (by simp [World.putObj]) (fun b hb => World.putObj_heap_other hb) hb (by simp [Mat])
  have e : putAll s.heap [(id, ab)] = s.heap.set id ab := by simp [putAll, putB, hlt]
  have := fits_put (d := none) hf hcon rfl rfl (by simp only; rw [e]; simp) (val := .u) (by simp [Mat])
  simp only [setD, Act.put] at this
  rw [e] at this
  exact this

theorem range_ok (hsp : SpecsOk C.P C.sp) {g : Operand} {gv : AV} {ps : Array Tmp} {asg body : Code} {K : Option Code → St → Prop} {Q : Exit → Act → World → Prop} (hf : Fits E s a w η) (hg : Mat E η gv (a.eval g))
    (h : rangeA C s gv ⟨ps, asg, body⟩ K) (hK : ∀ j s' a' w' η', K j s' → Fits E s' a' w' η' → match j with
      | none => Q .normal a' w'
      | some c => c.wpIn (FF none) m C.P Q a' w') : (Code.rangeFunc g ps asg body).wpIn (FF none) m C.P Q a w := by
  unfold rangeA at h
  split at h
  case h_2 => exact h.elim
  rename_i gf cap
  split at h
  · exact h.elim
  rename_i hny
  split at h
  case h_2 => exact h.elim
  rename_i sp hspg
  split at h
  case h_2 => exact h.elim
  rename_i bd hbd
  split at h
  case h_2 => exact h.elim
  rename_i side val up nxt hrun
  split at h
  case isFalse => exact h.elim
  rename_i hup
  obtain ⟨hside, h⟩ := h
  rw [forceL_eq] at h
  simp only [Mat] at hg
  obtain ⟨fa, ca, hgv, m1, m2⟩ := hg
  simp only [MatL] at m1
  have hfa : fa = #[] := by apply Array.ext'; simpa using m1
  subst hfa
  -- the contract of the function
  obtain ⟨fn, hfn, hbody⟩ := Option.bind_eq_some_iff.1 hbd
  have hs1 := hsp gf sp hspg
  rw [if_neg hny] at hs1
  -- the two blocks
  have hf1 := fits_new (o := .deferred (some [])) (ab := .df) hf ⟨rfl, Nat.one_pos, World.alloc_heap_new _ _⟩
  refine wpIn_rangeFunc fun fnid _ => ?_
  obtain ⟨rec, hrec⟩ : ∃ rec : Loop, rec = { state := .ready, pending := none, fn := fnid, tmps := a.tmps, params := ps, assign := asg, body, defers := w.heap.size } := ⟨_, rfl⟩
  have htm : MatL E η s.tmps a.tmps.toList := matL_tmps (fun t _ => by have := hf.tm t; simpa [Array.getD_eq_getD_getElem?] using this) (by simp [hf.sz])
  have ext1 : ∀ id A, η id = some A → (upd η s.heap.length ⟨w.heap.size, 0, 1⟩) id = some A := upd_ext (by
      cases h : η s.heap.length with
      | none => rfl
      | some A => exact absurd (hf.hp.dm _ A h) (Nat.lt_irrefl _))
  have hf2 := fits_new (o := .loop rec) (ab := .lp .ready none s.tmps ⟨ps, asg, body⟩) hf1
    ⟨rfl, Nat.one_pos, rec, World.alloc_heap_new _ _, by rw [hrec], by rw [hrec], by rw [hrec], by rw [hrec], by rw [hrec], by rw [hrec]; exact htm.mono ext1⟩
  have ext2 : ∀ id A, η id = some A → (upd (upd η s.heap.length ⟨w.heap.size, 0, 1⟩) (s.heap ++ [AB.df]).length ⟨(w.alloc (.deferred (some []))).heap.size, 0, 1⟩) id = some A := fun id A h => upd_ext (by
      cases h : (upd η s.heap.length ⟨w.heap.size, 0, 1⟩) (s.heap ++ [AB.df]).length with
      | none => rfl
      | some A => exact absurd (hf1.hp.dm _ A h) (Nat.lt_irrefl _)) id A (ext1 id A h)
  have hdid : (upd (upd η s.heap.length ⟨w.heap.size, 0, 1⟩) (s.heap ++ [AB.df]).length ⟨(w.alloc (.deferred (some []))).heap.size, 0, 1⟩) s.heap.length = some ⟨w.heap.size, 0, 1⟩ := by
    simp [upd]
  have hlid : (upd (upd η s.heap.length ⟨w.heap.size, 0, 1⟩) (s.heap ++ [AB.df]).length ⟨(w.alloc (.deferred (some []))).heap.size, 0, 1⟩) (s.heap.length + 1) = some ⟨w.heap.size + 1, 0, 1⟩ := by
    simp [upd]
  generalize hη2 : upd (upd η s.heap.length ⟨w.heap.size, 0, 1⟩) (s.heap ++ [AB.df]).length ⟨(w.alloc (.deferred (some []))).heap.size, 0, 1⟩ = η2 at hf2 ext2 hdid hlid
  have hlen2 : (s.heap ++ [AB.df] ++ [AB.lp .ready none s.tmps ⟨ps, asg, body⟩]).length = s.heap.length + 2 := by simp
  obtain ⟨w2, hw2⟩ : ∃ w2, w2 = (w.alloc (.deferred (some []))).alloc (.loop rec) := ⟨_, rfl⟩
  rw [← hw2] at hf2
  have harg : MatL E η2 (.yl (s.heap.length + 1) :: cap) ((#[.func (.yield (w.heap.size + 1)) #[] #[]] : Array Value) ++ ca).toList := by
    simp only [Array.toList_append, List.cons_append, List.nil_append, MatL, Mat]; exact ⟨_, _, rfl, ⟨_, hlid, rfl⟩, m2.mono ext2⟩
  have hfresh : ∀ id, s.heap.length + 2 ≤ id → id < nxt → η2 id = none := fun id h1 _ => by
      cases h : η2 id with
      | none => rfl
      | some A => have := hf2.hp.dm id A h; simp at this; omega
  rcases hs1 with ⟨hok, fn', b', hfn', hbody', hname⟩ | hext
  case inr =>
    exfalso
    obtain ⟨v, w', e, _⟩ := hext E η2 _ _ w2 (s.heap.length + 2) _ _ ⟨side, val, up, nxt⟩ harg hf2.hp hrun hfresh hside
    simp only [callFunc, Sem.run_bind, run_program, Result.andThen_ok, hfn] at e
    by_cases hn : (fn.name == "runtime.NumGoroutine") = true
    · simp [hn] at e
    · simp [hn, hbody] at e
  rw [hfn] at hfn'; cases hfn'
  have eg : ∀ args w, (callFunc gf args).run C.P w = .ok (.enter gf args) w := fun args w => by
    have hname' : ¬ fn.name = "runtime.NumGoroutine" := by simpa using hname
    simp [callFunc, hfn, hname', hbody]
  have hcall := hok E η2 (fun id => (s.heap ++ [AB.df] ++ [AB.lp .ready none s.tmps ⟨ps, asg, body⟩]).getD id .gone) _ w2 (s.heap.length + 2) (.yl (s.heap.length + 1) :: cap) (#[.func (.yield (w.heap.size + 1)) #[] #[]] ++ ca) ⟨side, val, up, nxt⟩
    harg hf2.hp hrun hfresh hside
  refine ⟨w.heap.size + 1, [{ target := .collected w.heap.size, args := #[] }], w2, { target := .fn (.func gf) ca, args := #[.func (.yield (w.heap.size + 1)) #[] #[]] }, w2, gf,
    #[.func (.yield (w.heap.size + 1)) #[] #[]] ++ ca, w2, ?_, ?_, ?_, ?_, fun h => (by cases h), ?_⟩
  · rw [hw2, hrec]; exact run_enterLoop_outer _ _ _ _ _
  · simp only [resolve, hgv]
    simp [go_sem]
  · intro f' _; trivial
  · simp [invoke, go_sem, eg]
  · refine (callsIn_ff hcall).mono ?_
    rintro e w3 ⟨v, rfl, η3, hc⟩
    have hf2' : Fits E ⟨s.tmps, s.heap ++ [AB.df] ++ [AB.lp .ready none s.tmps ⟨ps, asg, body⟩], .p s.heap.length 0 :: s.ds⟩ { a with defers := [{ target := .collected w.heap.size, args := #[] }] ++ a.defers } w2 η2 := by
      obtain ⟨vs, d1, d2⟩ := hf2.df
      refine ⟨hf2.tm, hf2.sz, ⟨.pointer (some ⟨w.heap.size, 0, none⟩) :: vs, ?_, by simp [d2]⟩, hf2.hp⟩
      simp only [MatL, Mat]
      exact ⟨_, _, rfl, ⟨_, hdid, by simp⟩, d1⟩
    rw [← hlen2] at hc
    have hf3 := fits_put (d := none) hf2' hc rfl hup.1 hup.2 (val := .u) (by simp [Mat])
    simp only [setD, Act.put] at hf3
    split at h
    case h_2 => exact h.elim
    rename_i st pend tms key hlp
    have hlive : ((putAll (s.heap ++ [AB.df] ++ [AB.lp .ready none s.tmps ⟨ps, asg, body⟩]) up).getD (s.heap.length + 1) .gone).live = true := by rw [hlp]; rfl
    obtain ⟨A, hA, hb, _⟩ := hf3.hp.hp (s.heap.length + 1) hlive
    have hA' := hc.ext _ _ hlid
    rw [hA] at hA'; cases hA'
    simp only [hlp] at hb
    obtain ⟨_, _, r2, g1, g2, g3, _⟩ := hb
    have fin : st ≠ .busy → K pend ⟨s.tmps, (putAll (s.heap ++ [AB.df] ++ [AB.lp .ready none s.tmps ⟨ps, asg, body⟩]) up).set (s.heap.length + 1) .gone, .p s.heap.length 0 :: s.ds⟩ →
        rangePost (FF none) m C.P (w.heap.size + 1) Q { a with defers := [{ target := .collected w.heap.size, args := #[] }] ++ a.defers } (.returned v) w3 := by
      intro hst hk
      have hf4 := fits_set (o := .loop { r2 with state := .exhausted }) (ab := .gone) hf3 hA hlive Nat.one_pos (by simp [BlkOk])
      refine ⟨r2.pending, _, run_endLoop g1 (by rw [g2]; exact hst), ?_⟩
      subst g3
      exact hK _ _ _ _ _ hk hf4
    split at h
    · exact h.elim
    · exact fin (by simp) h
    · exact fin (by simp) h
    · exact fin (by simp) h
end
end Go.Proofs.YtkihnmpjpbfiaaaDoor.Ev
