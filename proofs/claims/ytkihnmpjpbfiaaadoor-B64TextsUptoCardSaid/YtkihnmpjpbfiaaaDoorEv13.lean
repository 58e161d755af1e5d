/- A region of operations, one behind the other, and in any order that its edges allow. -/
import Derived.Test.YtkihnmpjpbfiaaaDoorEv12
set_option linter.unusedVariables false
set_option linter.unusedSimpArgs false
namespace Go.Proofs.YtkihnmpjpbfiaaaDoor.Ev
open Go

structure St where
  tmps : List AV
  heap : List AB
  ds : List AV

def St.T (s : St) (t : Nat) : AV := s.tmps.getD t .u
def St.H (s : St) (id : Nat) : AB := s.heap.getD id .gone

/-- A list with one element turned, its begin laid open. -/
def setK {α : Type} {β : Sort _} : List α → Nat → α → (List α → β) → β
  | [], _, _, k => k []
  | _ :: l, 0, x, k => k (x :: l)
  | a :: l, n + 1, x, k => setK l n x fun l' => k (a :: l')

theorem setK_eq {α : Type} {β : Sort _} (x : α) : ∀ (l : List α) (n : Nat) (k : List α → β), setK l n x k = k (l.set n x)
  | [], _, _ => rfl
  | _ :: _, 0, _ => rfl
  | a :: l, n + 1, k => by simp only [setK]; rw [setK_eq x l n]; rfl

def putB (h : List AB) (id : Nat) (ab : AB) : List AB :=
  if id < h.length then h.set id ab else h ++ (List.replicate (id - h.length) .gone ++ [ab])

def forceL {α : Type} {β : Sort _} : List α → (List α → β) → β
  | [], k => k []
  | a :: l, k => forceL l fun l' => k (a :: l')

theorem forceL_eq {α : Type} {β : Sort _} : ∀ (l : List α) (k : List α → β), forceL l k = k l
  | [], _ => rfl
  | a :: l, k => by simp only [forceL]; rw [forceL_eq l]

def putAll : List AB → List (Nat × AB) → List AB
  | h, [] => h
  | h, (id, ab) :: r => putAll (putB h id ab) r

structure LInv where
  σ : Type
  st : σ → St
  m : σ → Nat
  rel : σ → σ → Prop := fun _ _ => True

structure Ctx where
  na : Nat := 0
  top : Bool := true
  P : Program
  sp : Specs
  nm : Bool

/-- The touched blocks, each once. -/
def nodupB : List (Nat × AB) → Bool
  | [] => true
  | (id, _) :: r => (match lookup r id with
    | none => true
    | some _ => false) && nodupB r

/-- What an executed operation leaves. -/
structure TE where
  rd : List Nat
  dst : Option Nat
  ft : List Nat
  up : List Nat

def gval (ops : Array Oper) (tm : List AV) (j : Nat) : AV := match (ops[j]?).bind (·.dst) with
  | some d => tm.getD d .u
  | none => .u

def guardTmp (ops : Array Oper) (o : Oper) : List Nat := match o.guard with
  | none => []
  | some (j, _) => ((ops[j]?).bind (·.dst)).toList

def undefAV : AV := .v (.tuple #[])

def dstOk (n : Nat) : Option Nat → Bool
  | none => true
  | some d => d < n

def putD (s : List AV) (d : Option Nat) (v : AV) (k : List AV → Prop) : Prop := match d with
  | some d => setK s d v k
  | none => k s

/-- Behind an operation: its value named, if it is a number and names are asked for. -/
def withVal (nm : Bool) (v : AV) (k : AV → Prop) : Prop := match nm, v with
  | true, .i kd e => ∀ y : Int, y = e → k (.i kd y)
  | _, v => k v

def seqA (C : Ctx) (ops : Array Oper) : List Oper → St → List TE → (St → List TE → Prop) → Prop
  | [], s, tr, K => K s tr
  | o :: r, s, tr, K =>
    let skip (tm : List AV) : Prop := if dstOk tm.length o.dst = true then putD tm o.dst undefAV fun tm' => seqA C ops r ⟨tm', s.heap, s.ds⟩ (⟨guardTmp ops o, o.dst, [], []⟩ :: tr) K else False
    let run (tm : List AV) : Prop := match opA C.P C.sp o.op o.type (fun t => tm.getD t .u) (fun id => s.heap.getD id .gone) s.heap.length with
      | some ⟨side, val, upd, nxt⟩ =>
        if dstOk tm.length o.dst = true ∧ nodupB upd = true ∧ (putAll s.heap upd).length = nxt then
          side ∧ withVal C.nm val fun val => putD tm o.dst val fun tm' => forceL (putAll s.heap upd) fun h' =>
            seqA C ops r ⟨tm', h', s.ds⟩ (⟨guardTmp ops o ++ tmpsOf o.op, o.dst, footA C.sp o.op (rop (restr (tmpsOf o.op) fun t => tm.getD t .u)) s.heap.length, upd.map (·.1)⟩ :: tr) K
        else False
      | none => False
    match o.guard with
    | none => run s.tmps
    | some (j, want) => match gval ops s.tmps j with
      | .b b => if b = want then run s.tmps else skip s.tmps
      | .c e => match (ops[j]?).bind (·.dst) with
        | some d => (e = want → setK s.tmps d (.b want) fun tm => run tm) ∧ (e = !want → setK s.tmps d (.b (!want)) fun tm => skip tm)
        | none => False
      | .v (.tuple ⟨[]⟩) => skip s.tmps
      | _ => False

def setD (tm : List AV) (d : Option Nat) (v : AV) : List AV := match d with
  | some d => tm.set d v
  | none => tm

/-- The deferred calls of an activation: the marks of the ranges over functions behind it. -/
def Marks (E : Env) (η : Eta) (ds : List AV) (l : List Deferred) : Prop :=
  ∃ vs, MatL E η ds vs ∧ l = vs.map fun v => { target := .collected (match v with | .pointer (some A) => A.block | _ => 0), args := #[] }
theorem Marks.mono {E : Env} {η η' : Eta} {ds : List AV} {l : List Deferred} (h : ∀ id A, η id = some A → η' id = some A) : Marks E η ds l → Marks E η' ds l :=
  fun ⟨vs, h1, h2⟩ => ⟨vs, h1.mono h, h2⟩

/-- The state fits. -/
structure Fits (E : Env) (s : St) (a : Act) (w : World) (η : Eta) : Prop where
  tm : ∀ t, Mat E η (s.tmps.getD t .u) (a.tmps.getD t undef)
  sz : a.tmps.size = s.tmps.length
  df : Marks E η s.ds a.defers
  hp : Heap E η (fun id => s.heap.getD id .gone) (· < s.heap.length) w

theorem putB_get (h : List AB) (id : Nat) (ab : AB) (i : Nat) : (putB h id ab).getD i .gone = if i = id then ab else h.getD i .gone := by
  unfold putB
  simp only [List.getD_eq_getElem?_getD]
  split
  · rename_i hlt
    rw [List.getElem?_set]
    by_cases e : id = i
    · subst e; simp [hlt]
    · simp [e, Ne.symm e]
  · rename_i hge
    by_cases e : i = id
    · subst e
      rw [List.getElem?_append_right (by omega), List.getElem?_append_right (by simp)]
      simp
    · rw [if_neg e]
      by_cases hi : i < h.length
      · rw [List.getElem?_append_left hi]
      · rw [List.getElem?_append_right (by omega), List.getElem?_eq_none (by omega : h.length ≤ i)]
        by_cases h2 : i - h.length < id - h.length
        · rw [List.getElem?_append_left (by simpa using h2)]
          simp [h2]
        · rw [List.getElem?_append_right (by simp; omega)]
          rw [List.getElem?_eq_none (by simp; omega)]
theorem putB_length (h : List AB) (id : Nat) (ab : AB) : h.length ≤ (putB h id ab).length := by
  unfold putB; split <;> simp

theorem putAll_get : ∀ (upd : List (Nat × AB)) (h : List AB) (i : Nat), nodupB upd = true → (putAll h upd).getD i .gone = (lookup upd i).getD (h.getD i .gone)
  | [], h, i, _ => rfl
  | (id, ab) :: r, h, i, hu => by
    simp only [nodupB, Bool.and_eq_true] at hu
    rw [putAll, putAll_get r _ i hu.2, putB_get]
    simp only [lookup]
    by_cases e : id = i
    · subst e
      have : lookup r id = none := by
        cases hl : lookup r id with
        | none => rfl
        | some x => rw [hl] at hu; simp at hu
      simp [this]
    · rw [if_neg e, if_neg (Ne.symm e)]

theorem putAll_length : ∀ (upd : List (Nat × AB)) (h : List AB), h.length ≤ (putAll h upd).length
  | [], _ => Nat.le_refl _
  | (id, ab) :: r, h => Nat.le_trans (putB_length h id ab) (putAll_length r _)

theorem putAll_after {upd : List (Nat × AB)} {h : List AB} (hu : nodupB upd = true) : (fun id => (putAll h upd).getD id .gone) = after (fun id => h.getD id .gone) upd := by
  funext i
  rw [putAll_get upd h i hu]; rfl

section
variable {P : Program} {E : Env} {F : Fence} {m : Nat}

/-- A fence that lets all by. -/
def FF (ro : Option Nat) : Fence := { fn := fun _ => True, depth := none, alive := false, round := ro }

theorem coreA_not_defer {sp : Specs} {o : Op} {ty : TypeId} {ρ : Tmp → AV} {H : Nat → AB} {fid : Nat} {r : R} (h : opA P sp o ty ρ H fid = some r) : ∀ c, o ≠ .defer c := by
  rintro c rfl
  simp [opA, coreA] at h

theorem callsIn_ff {ro : Option Nat} {f : FuncId} {args : Array Value} {w : World} {R : Ending → World → Prop} {n : Nat} (h : Calls P f args w R) : CallsIn (FF ro) n P f args w R := by
  have : CallsIn Fence.wide n P f args w R := callsIn_wide.2 h
  exact this

/-- An operation of which this is known, in the machine. -/
theorem wpIn_of_opOk {ro : Option Nat} {o : Oper} {a : Act} {w : World} {Post : Value → World → Prop} {next : Act → World → Prop} {Q : Exit → Act → World → Prop} (hd : ∀ c, o.op ≠ .defer c)
    (h : OpOk P o a w Post) (hn : ∀ v w', Post v w' → next (a.put o.dst v) w') : o.wpIn (FF ro) m P a w next Q := by
  refine ⟨fun _ _ => trivial, ?_⟩
  rw [show (FF ro).round = ro from rfl, Oper.semAt_eq ro a.eval o hd]
  rcases h with ⟨v, w', e, hp⟩ | ⟨w', e, hp⟩ | ⟨f, args, e, hc⟩ | ⟨l, f, tmps, asg, body, e, hc⟩
  · rw [e]; exact hn v w' hp
  · rw [e]; exact hn _ w' hp
  · rw [e]
    refine ⟨fun h => (by cases h), (callsIn_ff hc).mono ?_⟩
    rintro e w' ⟨v, rfl, hp⟩
    exact hn v w' hp
  · rw [e]
    refine ⟨fun h => (by cases h), RoundIn.mono (show RoundIn (FF ro) (m - 1) P l f tmps asg body w _ from hc (m - 1)) ?_⟩
    rintro e w' ⟨v, rfl, hp⟩
    exact hn v w' hp

theorem fits_put {s : St} {a : Act} {w w' : World} {η η' : Eta} {r : R} {v : Value} {d : Option Nat} (hf : Fits E s a w η) (hc : Concl E η η' (fun id => s.heap.getD id .gone) w w' s.heap.length r v)
    (hd : dstOk s.tmps.length d = true) (hu : nodupB r.upd = true) (hn : (putAll s.heap r.upd).length = r.nxt) {val : AV} (hv : Mat E η' val v) :
    Fits E ⟨setD s.tmps d val, putAll s.heap r.upd, s.ds⟩ (a.put d v) w' η' := by
  have hle := putAll_length r.upd s.heap
  have hheap : Heap E η' (fun id => (putAll s.heap r.upd).getD id .gone) (· < (putAll s.heap r.upd).length) w' := by
    rw [putAll_after hu]
    exact hf.hp.step hc (fun id h => Nat.lt_of_lt_of_le h hle) (fun id _ h2 => by rw [hn]; exact h2)
  cases d with
  | none => exact ⟨fun t => (hf.tm t).mono hc.ext, hf.sz, hf.df.mono hc.ext, hheap⟩
  | some d =>
    have hd : d < s.tmps.length := by simpa [dstOk] using hd
    refine ⟨fun t => ?_, ?_, hf.df.mono hc.ext, hheap⟩
    · simp only [setD, Act.put, List.getD_eq_getElem?_getD, Array.getD_eq_getD_getElem?]
      rw [List.getElem?_set, Array.getElem?_setIfInBounds]
      by_cases e : d = t
      · subst e
        have h2 := hf.sz
        simp [hd, show d < a.tmps.size by omega, hv]
      · simp only [e, if_false]
        have := (hf.tm t).mono hc.ext
        simpa [List.getD_eq_getElem?_getD, Array.getD_eq_getD_getElem?] using this
    · simp [setD, Act.put, hf.sz]

theorem mat_undef {η : Eta} : Mat E η undefAV undef := by simp [undefAV, Mat, undef]

theorem fits_skip {s : St} {a : Act} {w : World} {η : Eta} {d : Option Nat} (hf : Fits E s a w η) (hd : dstOk s.tmps.length d = true) :
    Fits E ⟨setD s.tmps d undefAV, s.heap, s.ds⟩ (a.put d undef) w η := by
  have hc : Concl E η η (fun id => s.heap.getD id .gone) w w s.heap.length ⟨True, undefAV, [], s.heap.length⟩ undef := .pure mat_undef rfl
  exact fits_put hf hc hd rfl rfl mat_undef

theorem fits_know {s : St} {a : Act} {w : World} {η : Eta} {d : Nat} {e b : Bool} (hf : Fits E s a w η) (hg : s.tmps.getD d .u = .c e) (h : e = b) : Fits E ⟨s.tmps.set d (.b b), s.heap, s.ds⟩ a w η := by
  refine ⟨fun t => ?_, by simp [hf.sz], hf.df, hf.hp⟩
  have h1 := hf.tm t
  simp only [List.getD_eq_getElem?_getD] at h1 hg ⊢
  rw [List.getElem?_set]
  by_cases e1 : d = t
  · subst e1
    rw [hg] at h1
    subst h
    by_cases hd : d < s.tmps.length
    · simpa [hd, Mat] using h1
    · simp [hd, Mat]
  · simpa [e1] using h1

theorem yielded_of {ops : Array Oper} {tm : List AV} {a : Act} {η : Eta} {j : Nat} (hm : ∀ t, Mat E η (tm.getD t .u) (a.tmps.getD t undef)) (hs : a.tmps.size = tm.length) :
    (∀ b, gval ops tm j = .b b → yielded ops a.tmps j = some b) ∧ (gval ops tm j = .v (.tuple #[]) → yielded ops a.tmps j = none) := by
  unfold gval yielded
  cases hd : (ops[j]?).bind (·.dst) with
  | none => simp
  | some d =>
    have h1 := hm d
    refine ⟨fun b hb => ?_, fun hb => ?_⟩
    · simp only at hb
      rw [hb] at h1
      simp only [Mat] at h1
      have hlt : d < tm.length := by
        rcases Nat.lt_or_ge d tm.length with h | h
        · exact h
        · rw [List.getD_eq_getElem?_getD, List.getElem?_eq_none h] at hb; cases hb
      have h2 : a.tmps[d]? = some (.bool b) := by
        rw [Array.getD_eq_getD_getElem?] at h1
        have hlt2 : d < a.tmps.size := by rw [hs]; exact hlt
        rw [Array.getElem?_eq_getElem hlt2] at h1 ⊢
        simpa using h1
      simp [h2]
    · simp only at hb
      rw [hb] at h1
      simp only [Mat] at h1
      rw [Array.getD_eq_getD_getElem?] at h1
      cases h3 : a.tmps[d]? with
      | none => simp [h3]
      | some v => rw [h3] at h1; simp at h1; subst h1; simp [h3]

theorem wanted_of {o : Oper} {ops : Array Oper} {tm : Array Value} {j : Nat} {want : Bool} (hg : o.guard = some (j, want)) : Region.wanted o (yielded ops tm) = (yielded ops tm j == some want) := by simp [Region.wanted, hg]
end
end Go.Proofs.YtkihnmpjpbfiaaaDoor.Ev
