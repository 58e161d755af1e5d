/- The walk through a region: in the order of the text. -/
import Derived.Test.YtkihnmpjpbfiaaaDoorEv13
set_option linter.unusedVariables false
set_option linter.unusedSimpArgs false
namespace Go.Proofs.YtkihnmpjpbfiaaaDoor.Ev
open Go

/-- What one operation has done on a way through a region. -/
structure TF where
  o : Oper
  wanted : Bool
  s : St
  fid : Nat
  r : R

def TF.rd (ops : Array Oper) (e : TF) : List Nat := guardTmp ops e.o ++ (if e.wanted then tmpsOf e.o.op else [])
def TF.ft (sp : Specs) (e : TF) : List Nat := if e.wanted then footA sp e.o.op (rop (restr (tmpsOf e.o.op) fun t => e.s.tmps.getD t .u)) e.fid else []

/-- The guard's word in this state. -/
def GuardSays (ops : Array Oper) (tm : List AV) (o : Oper) (wanted : Bool) : Prop :=
  match o.guard with
  | none => wanted = true
  | some (j, want) => gval ops tm j = .b (if wanted then want else !want) ∨ (wanted = false ∧ gval ops tm j = .v (.tuple #[]))

inductive Path (C : Ctx) (ops : Array Oper) : List Oper → St → List TF → St → Prop
  | nil (s : St) : Path C ops [] s [] s
  | run {o : Oper} {l : List Oper} {s s' : St} {r : R} {tf : List TF} (hg : GuardSays ops s.tmps o true)
      (hr : opA C.P C.sp o.op o.type (fun t => s.tmps.getD t .u) (fun id => s.heap.getD id .gone) s.heap.length = some r) (hs : r.side) (hd : dstOk s.tmps.length o.dst = true)
      (hu : nodupB r.upd = true) (hn : (putAll s.heap r.upd).length = r.nxt) (h : Path C ops l ⟨setD s.tmps o.dst r.val, putAll s.heap r.upd, s.ds⟩ tf s') :
      Path C ops (o :: l) s (⟨o, true, s, s.heap.length, r⟩ :: tf) s'
  | skip {o : Oper} {l : List Oper} {s s' : St} {tf : List TF} (hg : GuardSays ops s.tmps o false) (hd : dstOk s.tmps.length o.dst = true)
      (h : Path C ops l ⟨setD s.tmps o.dst undefAV, s.heap, s.ds⟩ tf s') : Path C ops (o :: l) s (⟨o, false, s, s.heap.length, ⟨True, undefAV, [], s.heap.length⟩⟩ :: tf) s'
  | know {l : List Oper} {s s' : St} {d : Nat} {e b : Bool} {tf : List TF} (hg : s.tmps.getD d .u = .c e) (he : e = b) (h : Path C ops l ⟨s.tmps.set d (.b b), s.heap, s.ds⟩ tf s') : Path C ops l s tf s'

theorem path_ds {C : Ctx} {ops : Array Oper} {l : List Oper} {s s' : St} {tf : List TF} (h : Path C ops l s tf s') : s'.ds = s.ds := by
  induction h with
  | nil => rfl
  | run _ _ _ _ _ _ _ ih => exact ih
  | skip _ _ _ ih => exact ih
  | know _ _ _ ih => exact ih

def TF.te (C : Ctx) (ops : Array Oper) (e : TF) : TE := ⟨e.rd ops, e.o.dst, e.ft C.sp, e.r.upd.map (·.1)⟩

theorem putD_eq {tm : List AV} {d : Option Nat} {v : AV} {k : List AV → Prop} (h : putD tm d v k) : k (setD tm d v) := by
  cases d with
  | none => exact h
  | some d => simp only [putD, setK_eq] at h; exact h

theorem withVal_eq {nm : Bool} {v : AV} {k : AV → Prop} (h : withVal nm v k) : k v := by
  unfold withVal at h
  split at h
  · exact h _ rfl
  · exact h

/-- Out of the account of a region: a way through it. -/
theorem path_of_seqA {C : Ctx} {ops : Array Oper} : ∀ {l : List Oper} {s : St} {tr : List TE} {K : St → List TE → Prop}, seqA C ops l s tr K → ∃ tf s', Path C ops l s tf s' ∧ K s' ((tf.map (·.te C ops)).reverse ++ tr)
  | [], s, tr, K, h => ⟨[], s, .nil s, by unfold seqA at h; simpa using h⟩
  | o :: l, s, tr, K, h => by
    have runs : ∀ (s0 : St) (tm : List AV), s0 = ⟨tm, s.heap, s.ds⟩ → GuardSays ops tm o true →
        (match opA C.P C.sp o.op o.type (fun t => tm.getD t .u) (fun id => s.heap.getD id .gone) s.heap.length with
          | some ⟨side, val, upd, nxt⟩ =>
            if dstOk tm.length o.dst = true ∧ nodupB upd = true ∧ (putAll s.heap upd).length = nxt then
              side ∧ withVal C.nm val fun val => putD tm o.dst val fun tm' => forceL (putAll s.heap upd) fun h' =>
                seqA C ops l ⟨tm', h', s.ds⟩ (⟨guardTmp ops o ++ tmpsOf o.op, o.dst, footA C.sp o.op (rop (restr (tmpsOf o.op) fun t => tm.getD t .u)) s.heap.length, upd.map (·.1)⟩ :: tr) K
            else False
          | none => False) → ∃ tf s', Path C ops (o :: l) s0 tf s' ∧ K s' ((tf.map (·.te C ops)).reverse ++ tr) := by
      rintro s0 tm rfl hg h
      split at h
      · rename_i side val upd nxt hr
        split at h
        · rename_i hc
          obtain ⟨hs, h⟩ := h
          have h := putD_eq (withVal_eq h)
          rw [forceL_eq] at h
          obtain ⟨tf, s', hp, hk⟩ := path_of_seqA h
          exact ⟨_, s', .run hg hr hs hc.1 hc.2.1 hc.2.2 hp, by simpa [TF.te, TF.rd, TF.ft] using hk⟩
        · exact h.elim
      · exact h.elim
    have skips : ∀ (s0 : St) (tm : List AV), s0 = ⟨tm, s.heap, s.ds⟩ → GuardSays ops tm o false →
        (if dstOk tm.length o.dst = true then putD tm o.dst undefAV fun tm' => seqA C ops l ⟨tm', s.heap, s.ds⟩ (⟨guardTmp ops o, o.dst, [], []⟩ :: tr) K else False) →
        ∃ tf s', Path C ops (o :: l) s0 tf s' ∧ K s' ((tf.map (·.te C ops)).reverse ++ tr) := by
      rintro s0 tm rfl hg h
      split at h
      · rename_i hd
        obtain ⟨tf, s', hp, hk⟩ := path_of_seqA (putD_eq h)
        exact ⟨_, s', .skip hg hd hp, by simpa [TF.te, TF.rd, TF.ft] using hk⟩
      · exact h.elim
    unfold seqA at h
    simp only at h
    split at h
    · rename_i hg
      exact runs s s.tmps rfl (by simp [GuardSays, hg]) h
    · rename_i j want hg
      split at h
      · rename_i b hb
        split at h
        · rename_i e
          exact runs s s.tmps rfl (by simp [GuardSays, hg, hb, e]) h
        · rename_i e
          exact skips s s.tmps rfl (by simp only [GuardSays, hg, hb]; left; cases b <;> cases want <;> simp at e ⊢) h
      · rename_i e hb
        split at h
        · rename_i d hd
          have hgd : s.tmps.getD d .u = .c e := by simpa [gval, hd] using hb
          have hlt : d < s.tmps.length := by
            rcases Nat.lt_or_ge d s.tmps.length with h | h
            · exact h
            · rw [List.getD_eq_getElem?_getD, List.getElem?_eq_none h] at hgd; cases hgd
          have hset : ∀ b, gval ops (s.tmps.set d (.b b)) j = .b b := fun b => by simp [gval, hd, hlt]
          rw [setK_eq, setK_eq] at h
          by_cases hw : e = want
          · obtain ⟨tf, s', hp, hk⟩ := runs ⟨s.tmps.set d (.b want), s.heap, s.ds⟩ _ rfl (by simp [GuardSays, hg, hset]) (h.1 hw)
            exact ⟨tf, s', .know hgd hw hp, hk⟩
          · have hw' : e = !want := by cases e <;> cases want <;> simp at hw ⊢
            obtain ⟨tf, s', hp, hk⟩ := skips ⟨s.tmps.set d (.b (!want)), s.heap, s.ds⟩ _ rfl (by simp [GuardSays, hg, hset]) (h.2 hw')
            exact ⟨tf, s', .know hgd hw' hp, hk⟩
        · exact h.elim
      · rename_i hb
        exact skips s s.tmps rfl (by simp only [GuardSays, hg]; right; exact ⟨trivial, hb⟩) h
      · exact h.elim

section
variable {C : Ctx} {E : Env} {m : Nat} {ro : Option Nat}

theorem guard_wanted {ops : Array Oper} {s : St} {a : Act} {η : Eta} {o : Oper} {wanted : Bool} (hm : ∀ t, t ∈ guardTmp ops o → Mat E η (s.tmps.getD t .u) (a.tmps.getD t undef)) (hs : a.tmps.size = s.tmps.length)
    (h : GuardSays ops s.tmps o wanted) : Region.wanted o (yielded ops a.tmps) = wanted := by
  unfold GuardSays at h
  split at h
  · rename_i hg; simp [Region.wanted, hg, h]
  · rename_i j want hg
    rw [wanted_of hg]
    have hy : (∀ b, gval ops s.tmps j = .b b → yielded ops a.tmps j = some b) ∧ (gval ops s.tmps j = .v (.tuple #[]) → yielded ops a.tmps j = none) := by
      have hm' : ∀ t, Mat E η ((restr (guardTmp ops o) fun t => s.tmps.getD t .u) t) (a.tmps.getD t undef) := fun t => by
        unfold restr
        split
        · rename_i h; exact hm t (by simpa using h)
        · simp [Mat]
      have e : gval ops s.tmps j = gval ops ((List.range s.tmps.length).map (restr (guardTmp ops o) fun t => s.tmps.getD t .u)) j := by
        unfold gval
        cases hd : (ops[j]?).bind (·.dst) with
        | none => rfl
        | some d =>
          simp only
          by_cases hlt : d < s.tmps.length
          · simp [hlt, restr, guardTmp, hg, hd]
          · simp [hlt]
      rw [e]
      refine yielded_of (E := E) (η := η) (fun t => ?_) (by simpa using hs)
      by_cases hlt : t < s.tmps.length
      · simpa [hlt] using hm' t
      · simp [hlt, Mat]
    rcases h with h | ⟨rfl, h⟩
    · rw [hy.1 _ h]; cases wanted <;> simp
    · rw [hy.2 h]; rfl

/-- The operations one behind the other. -/
theorem path_seq (hsp : SpecsOk C.P C.sp) {ops : Array Oper} {Q : Exit → Act → World → Prop} : ∀ {l : List Oper} {s s' : St} {tf : List TF} {k : Nat} {a : Act} {w : World} {η : Eta}, Path C ops l s tf s' →
    (∀ j, l[j]? = ops[k + j]?) → Fits E s a w η → (∀ a' w' η', Fits E s' a' w' η' → Q .normal a' w') → wpOpsIn (FF ro) m C.P ops Q (List.range' k l.length) a w := by
  intro l s s' tf k a w η hp
  induction hp generalizing k a w η with
  | nil s => intro _ hf hK; simpa [wpOpsIn] using hK a w η hf
  | @run o l s s' r tf hg hr hs hd hu hn _ ih =>
    intro hi hf hK
    have ho : ops[k]? = some o := by have := hi 0; simpa using this.symm
    rw [List.length_cons, List.range'_succ]
    simp only [wpOpsIn, ho]
    rw [if_pos (guard_wanted (fun t _ => hf.tm t) hf.sz hg)]
    refine wpIn_of_opOk (coreA_not_defer hr) (opA_ok hsp hf.hp hf.tm hr hs (fun id h1 _ => ?_)) ?_
    · cases he : η id with
      | none => rfl
      | some A => have := hf.hp.dm id A he; omega
    · rintro v w' ⟨η', hc⟩
      exact ih (fun j => by have := hi (j + 1); rw [show k + 1 + j = k + (j + 1) by omega, ← this]; simp) (fits_put hf hc hd hu hn hc.val) hK
  | @skip o l s s' tf hg hd _ ih =>
    intro hi hf hK
    have ho : ops[k]? = some o := by have := hi 0; simpa using this.symm
    rw [List.length_cons, List.range'_succ]
    simp only [wpOpsIn, ho]
    rw [guard_wanted (fun t _ => hf.tm t) hf.sz hg]
    simp only [Bool.false_eq_true, if_false]
    exact ⟨fun _ _ => trivial, ih (fun j => by have := hi (j + 1); rw [show k + 1 + j = k + (j + 1) by omega, ← this]; simp) (fits_skip hf hd) hK⟩
  | know hg he _ ih =>
    intro hi hf hK
    exact ih hi (fits_know hf hg he) hK
end
end Go.Proofs.YtkihnmpjpbfiaaaDoor.Ev
