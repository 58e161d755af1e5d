/- The walk through a region: in whatever order its edges allow. -/
import Derived.Test.YtkihnmpjpbfiaaaDoorEv14
set_option linter.unusedVariables false
set_option linter.unusedSimpArgs false
namespace Go.Proofs.YtkihnmpjpbfiaaaDoor.Ev
open Go

def upT (e : TF) (T : Nat → AV) (t : Nat) : AV := if e.o.dst = some t then e.r.val else T t
def foldT : List TF → (Nat → Bool) → Nat → (Nat → AV) → Nat → AV
  | [], _, _, T => T
  | e :: r, S, k, T => foldT r S (k + 1) (if S k then upT e T else T)
def foldH : List TF → (Nat → Bool) → Nat → (Nat → AB) → Nat → AB
  | [], _, _, H => H
  | e :: r, S, k, H => foldH r S (k + 1) (if S k then after H e.r.upd else H)

theorem foldT_congr {S S' : Nat → Bool} {t : Nat} : ∀ (l : List TF) (k : Nat) (T T' : Nat → AV), T t = T' t → (∀ i e, l[i]? = some e → e.o.dst = some t → S (k + i) = S' (k + i)) → foldT l S k T t = foldT l S' k T' t
  | [], _, _, _, h, _ => h
  | e :: r, k, T, T', h, hs => by
    simp only [foldT]
    refine foldT_congr r (k + 1) _ _ ?_ (fun i x hi hd => by have := hs (i + 1) x (by simpa using hi) hd; rwa [show k + (i + 1) = k + 1 + i by omega] at this)
    by_cases hd : e.o.dst = some t
    · have := hs 0 e rfl hd
      simp only [Nat.add_zero] at this
      rw [this]
      cases S' k <;> simp [upT, hd, h]
    · cases S k <;> cases S' k <;> simp [upT, hd, h]

theorem foldT_keep {S : Nat → Bool} {t : Nat} : ∀ (l : List TF) (k : Nat) (T : Nat → AV), (∀ i e, l[i]? = some e → e.o.dst = some t → S (k + i) = false) → foldT l S k T t = T t
  | [], _, _, _ => rfl
  | e :: r, k, T, hs => by
    simp only [foldT]
    rw [foldT_keep r (k + 1) _ (fun i x hi hd => by have := hs (i + 1) x (by simpa using hi) hd; rwa [show k + (i + 1) = k + 1 + i by omega] at this)]
    by_cases hd : e.o.dst = some t
    · have := hs 0 e rfl hd
      simp only [Nat.add_zero] at this
      simp [this]
    · cases S k <;> simp [upT, hd]

theorem foldT_last {S : Nat → Bool} {t : Nat} : ∀ (l : List TF) (k i : Nat) (T : Nat → AV) (e : TF), l[i]? = some e → e.o.dst = some t → S (k + i) = true →
    (∀ i' e', i < i' → l[i']? = some e' → e'.o.dst = some t → S (k + i') = false) → foldT l S k T t = e.r.val
  | [], _, _, _, _, h, _, _, _ => by simp at h
  | x :: r, k, 0, T, e, h, hd, hS, hl => by
    simp at h; subst h
    simp only [foldT]
    rw [foldT_keep r (k + 1) _ (fun i y hi hd' => by have := hl (i + 1) y (by omega) (by simpa using hi) hd'; rwa [show k + (i + 1) = k + 1 + i by omega] at this)]
    simp only [Nat.add_zero] at hS
    simp [hS, upT, hd]
  | x :: r, k, i + 1, T, e, h, hd, hS, hl => by
    simp only [foldT]
    exact foldT_last r (k + 1) i _ e (by simpa using h) hd (by rwa [show k + (i + 1) = k + 1 + i by omega] at hS)
      (fun i' y hi hg hd' => by have := hl (i' + 1) y (by omega) (by simpa using hg) hd'; rwa [show k + (i' + 1) = k + 1 + i' by omega] at this)

theorem foldT_shift {S : Nat → Bool} : ∀ (l : List TF) (k : Nat) (T : Nat → AV), foldT l S (k + 1) T = foldT l (fun j => S (j + 1)) k T
  | [], _, _ => rfl
  | e :: r, k, T => by simp only [foldT]; rw [foldT_shift r (k + 1)]

theorem foldH_congr {S S' : Nat → Bool} {id : Nat} : ∀ (l : List TF) (k : Nat) (T T' : Nat → AB), T id = T' id → (∀ i e, l[i]? = some e → lookup e.r.upd id ≠ none → S (k + i) = S' (k + i)) → foldH l S k T id = foldH l S' k T' id
  | [], _, _, _, h, _ => h
  | e :: r, k, T, T', h, hs => by
    simp only [foldH]
    refine foldH_congr r (k + 1) _ _ ?_ (fun i x hi hd => by have := hs (i + 1) x (by simpa using hi) hd; rwa [show k + (i + 1) = k + 1 + i by omega] at this)
    by_cases hd : lookup e.r.upd id = none
    · cases S k <;> cases S' k <;> simp [after, hd, h]
    · have := hs 0 e rfl hd
      simp only [Nat.add_zero] at this
      rw [this]
      cases S' k
      · simp [h]
      · simp only [if_true, after]; rw [h]

theorem foldH_keep {S : Nat → Bool} {id : Nat} : ∀ (l : List TF) (k : Nat) (T : Nat → AB), (∀ i e, l[i]? = some e → lookup e.r.upd id ≠ none → S (k + i) = false) → foldH l S k T id = T id
  | [], _, _, _ => rfl
  | e :: r, k, T, hs => by
    simp only [foldH]
    rw [foldH_keep r (k + 1) _ (fun i x hi hd => by have := hs (i + 1) x (by simpa using hi) hd; rwa [show k + (i + 1) = k + 1 + i by omega] at this)]
    by_cases hd : lookup e.r.upd id = none
    · cases S k <;> simp [after, hd]
    · have := hs 0 e rfl hd
      simp only [Nat.add_zero] at this
      simp [this]

theorem foldH_last {S : Nat → Bool} {id : Nat} {ab : AB} : ∀ (l : List TF) (k i : Nat) (T : Nat → AB) (e : TF), l[i]? = some e → lookup e.r.upd id = some ab → S (k + i) = true →
    (∀ i' e', i < i' → l[i']? = some e' → lookup e'.r.upd id ≠ none → S (k + i') = false) → foldH l S k T id = ab
  | [], _, _, _, _, h, _, _, _ => by simp at h
  | x :: r, k, 0, T, e, h, hd, hS, hl => by
    simp at h; subst h
    simp only [foldH]
    rw [foldH_keep r (k + 1) _ (fun i y hi hd' => by have := hl (i + 1) y (by omega) (by simpa using hi) hd'; rwa [show k + (i + 1) = k + 1 + i by omega] at this)]
    simp only [Nat.add_zero] at hS
    simp [hS, after, hd]
  | x :: r, k, i + 1, T, e, h, hd, hS, hl => by
    simp only [foldH]
    exact foldH_last r (k + 1) i _ e (by simpa using h) hd (by rwa [show k + (i + 1) = k + 1 + i by omega] at hS)
      (fun i' y hi hg hd' => by have := hl (i' + 1) y (by omega) (by simpa using hg) hd'; rwa [show k + (i' + 1) = k + 1 + i' by omega] at this)

theorem foldH_shift {S : Nat → Bool} : ∀ (l : List TF) (k : Nat) (T : Nat → AB), foldH l S (k + 1) T = foldH l (fun j => S (j + 1)) k T
  | [], _, _ => rfl
  | e :: r, k, T => by simp only [foldH]; rw [foldH_shift r (k + 1)]

section
variable {C : Ctx} {ops : Array Oper} {E : Env} {η : Eta}

theorem foldT_mono {S : Nat → Bool} : ∀ (l : List TF) (k : Nat) (T T' : Nat → AV), (∀ t v, Mat E η (T t) v → Mat E η (T' t) v) → ∀ t v, Mat E η (foldT l S k T t) v → Mat E η (foldT l S k T' t) v
  | [], _, _, _, h => h
  | e :: r, k, T, T', h => by
    simp only [foldT]
    refine foldT_mono r (k + 1) _ _ fun t v hm => ?_
    cases hk : S k
    · simp only [hk, Bool.false_eq_true, if_false] at hm ⊢; exact h t v hm
    · simp only [hk, if_true, upT] at hm ⊢
      split
      · rename_i hd; rwa [if_pos hd] at hm
      · rename_i hd; rw [if_neg hd] at hm; exact h t v hm

theorem setD_get {tm : List AV} {d : Option Nat} {v : AV} (hd : dstOk tm.length d = true) (t : Nat) : (setD tm d v).getD t .u = if d = some t then v else tm.getD t .u := by
  cases d with
  | none => simp [setD]
  | some d =>
    have hd : d < tm.length := by simpa [dstOk] using hd
    simp only [setD, List.getD_eq_getElem?_getD, List.getElem?_set, Option.some.injEq]
    by_cases e : d = t
    · subst e; simp [hd]
    · simp [e]

/-- What is known of each operation on a way. -/
structure TFOk (C : Ctx) (ops : Array Oper) (e : TF) : Prop where
  g : GuardSays ops e.s.tmps e.o e.wanted
  d : dstOk e.s.tmps.length e.o.dst = true
  run : e.wanted = true → opA C.P C.sp e.o.op e.o.type (fun t => e.s.tmps.getD t .u) (fun id => e.s.heap.getD id .gone) e.fid = some e.r ∧ e.r.side ∧ nodupB e.r.upd = true
  skip : e.wanted = false → e.r = ⟨True, undefAV, [], e.fid⟩
  le : e.fid ≤ e.r.nxt

theorem lt_succ_fun (i : Nat) : (fun j => decide (j + 1 < i + 1)) = fun j => decide (j < i) := by funext j; simp

theorem path_facts {l : List Oper} {s s' : St} {tf : List TF} (h : Path C ops l s tf s') :
    tf.map (·.o) = l ∧ s'.tmps.length = s.tmps.length ∧ s.heap.length ≤ s'.heap.length ∧
    (∀ i e, tf[i]? = some e → TFOk C ops e ∧ s.heap.length ≤ e.fid ∧ e.r.nxt ≤ s'.heap.length ∧ e.s.tmps.length = s.tmps.length ∧
      (∀ i' e', i < i' → tf[i']? = some e' → e.r.nxt ≤ e'.fid) ∧
      (∀ t v, Mat E η (foldT tf (fun k => decide (k < i)) 0 (fun t => s.tmps.getD t .u) t) v → Mat E η (e.s.tmps.getD t .u) v) ∧
      (∀ id, e.s.heap.getD id .gone = foldH tf (fun k => decide (k < i)) 0 (fun id => s.heap.getD id .gone) id)) ∧
    (∀ t v, Mat E η (foldT tf (fun _ => true) 0 (fun t => s.tmps.getD t .u) t) v → Mat E η (s'.tmps.getD t .u) v) ∧
    (∀ id, s'.heap.getD id .gone = foldH tf (fun _ => true) 0 (fun id => s.heap.getD id .gone) id) := by
  induction h with
  | nil s => exact ⟨rfl, rfl, Nat.le_refl _, fun i e h => by simp at h, fun t v h => h, fun id => rfl⟩
  | @run o l s s' r tf hg hr hs hd hu hn _ ih =>
    obtain ⟨a1, a2, a3, a4, a5, a6⟩ := ih
    have hT : (fun t => (setD s.tmps o.dst r.val).getD t .u) = upT ⟨o, true, s, s.heap.length, r⟩ (fun t => s.tmps.getD t .u) := by
      funext t; rw [setD_get hd]; rfl
    have hH : (fun id => (putAll s.heap r.upd).getD id .gone) = after (fun id => s.heap.getD id .gone) r.upd := putAll_after hu
    have hlen : (setD s.tmps o.dst r.val).length = s.tmps.length := by unfold setD; split <;> simp
    have hle := putAll_length r.upd s.heap
    simp only at a2 a3 a4 a5 a6
    rw [hn] at a3
    refine ⟨by simp [a1], by rw [a2, hlen], by omega, ?_, ?_, ?_⟩
    · intro i e he
      cases i with
      | zero =>
        simp at he; subst he
        refine ⟨⟨hg, hd, fun _ => ⟨hr, hs, hu⟩, fun h => (by cases h), (by show s.heap.length ≤ r.nxt; omega)⟩, Nat.le_refl _, a3, rfl, ?_, ?_, ?_⟩
        · intro i' e' hi' he'
          obtain ⟨i', rfl⟩ : ∃ j, i' = j + 1 := ⟨i' - 1, by omega⟩
          have := (a4 i' e' (by simpa using he')).2.1
          show r.nxt ≤ e'.fid; omega
        · intro t v hm
          rw [foldT_keep _ _ _ (fun i e _ _ => by simp)] at hm
          exact hm
        · intro id; rw [foldH_keep _ _ _ (fun i e _ _ => by simp)]
      | succ i =>
        obtain ⟨b1, b2, b3, b4, b5, b6, b7⟩ := a4 i e (by simpa using he)
        refine ⟨b1, by omega, b3, by rw [b4, hlen], ?_, ?_, ?_⟩
        · intro i' e' hi' he'
          obtain ⟨i', rfl⟩ : ∃ j, i' = j + 1 := ⟨i' - 1, by omega⟩
          exact b5 i' e' (by omega) (by simpa using he')
        · intro t v hm
          refine b6 t v ?_
          simp only [foldT] at hm
          rw [foldT_shift, lt_succ_fun] at hm
          rw [hT]
          simpa using hm
        · intro id
          rw [b7 id]
          simp only [foldH]
          rw [foldH_shift, lt_succ_fun, hH]
          simp
    · intro t v hm
      refine a5 t v ?_
      simp only [foldT] at hm
      rw [foldT_shift] at hm
      rw [hT]
      simpa using hm
    · intro id
      rw [a6 id]
      simp only [foldH]
      rw [foldH_shift, hH]
      simp
  | @skip o l s s' tf hg hd _ ih =>
    obtain ⟨a1, a2, a3, a4, a5, a6⟩ := ih
    have hT : (fun t => (setD s.tmps o.dst undefAV).getD t .u) = upT ⟨o, false, s, s.heap.length, ⟨True, undefAV, [], s.heap.length⟩⟩ (fun t => s.tmps.getD t .u) := by
      funext t; rw [setD_get hd]; rfl
    have hH : (fun id => s.heap.getD id .gone) = after (fun id => s.heap.getD id .gone) [] := by funext id; rfl
    have hlen : (setD s.tmps o.dst undefAV).length = s.tmps.length := by unfold setD; split <;> simp
    simp only at a2 a3 a4 a5 a6
    refine ⟨by simp [a1], by rw [a2, hlen], a3, ?_, ?_, ?_⟩
    · intro i e he
      cases i with
      | zero =>
        simp at he; subst he
        refine ⟨⟨hg, hd, fun h => (by cases h), fun _ => rfl, Nat.le_refl _⟩, Nat.le_refl _, a3, rfl, ?_, ?_, ?_⟩
        · intro i' e' hi' he'
          obtain ⟨i', rfl⟩ : ∃ j, i' = j + 1 := ⟨i' - 1, by omega⟩
          exact (a4 i' e' (by simpa using he')).2.1
        · intro t v hm
          rw [foldT_keep _ _ _ (fun i e _ _ => by simp)] at hm
          exact hm
        · intro id; rw [foldH_keep _ _ _ (fun i e _ _ => by simp)]
      | succ i =>
        obtain ⟨b1, b2, b3, b4, b5, b6, b7⟩ := a4 i e (by simpa using he)
        refine ⟨b1, b2, b3, by rw [b4, hlen], ?_, ?_, ?_⟩
        · intro i' e' hi' he'
          obtain ⟨i', rfl⟩ : ∃ j, i' = j + 1 := ⟨i' - 1, by omega⟩
          exact b5 i' e' (by omega) (by simpa using he')
        · intro t v hm
          refine b6 t v ?_
          simp only [foldT] at hm
          rw [foldT_shift, lt_succ_fun] at hm
          rw [hT]
          simpa using hm
        · intro id
          rw [b7 id]
          simp only [foldH]
          rw [foldH_shift, lt_succ_fun, ← hH]
          simp
    · intro t v hm
      refine a5 t v ?_
      simp only [foldT] at hm
      rw [foldT_shift] at hm
      rw [hT]
      simpa using hm
    · intro id
      rw [a6 id]
      simp only [foldH]
      rw [foldH_shift, ← hH]
      simp
  | @know l s s' d e b tf hg he _ ih =>
    obtain ⟨a1, a2, a3, a4, a5, a6⟩ := ih
    simp only [List.length_set] at a2 a3 a4 a5 a6
    have hmono : ∀ t v, Mat E η (s.tmps.getD t .u) v → Mat E η ((s.tmps.set d (.b b)).getD t .u) v := by
      intro t v hm
      simp only [List.getD_eq_getElem?_getD, List.getElem?_set] at hm hg ⊢
      by_cases e1 : d = t
      · subst e1
        rw [hg] at hm
        subst he
        by_cases hd : d < s.tmps.length
        · simpa [hd, Mat] using hm
        · simp [hd, Mat]
      · simpa [e1] using hm
    refine ⟨a1, a2, a3, ?_, fun t v hm => a5 t v (foldT_mono tf 0 _ _ hmono t v hm), a6⟩
    intro i x hx
    obtain ⟨b1, b2, b3, b4, b5, b6, b7⟩ := a4 i x hx
    exact ⟨b1, b2, b3, b4, b5, fun t v hm => b6 t v (foldT_mono tf 0 _ _ hmono t v hm), b7⟩
end
end Go.Proofs.YtkihnmpjpbfiaaaDoor.Ev
