/- A state that is at least what another one says, up to the names of the blocks. -/
import Derived.Test.YtkihnmpjpbfiaaaDoorEv16
set_option linter.unusedVariables false
set_option linter.unusedSimpArgs false
namespace Go.Proofs.YtkihnmpjpbfiaaaDoor.Ev
open Go

/-- For a block of the looser state: the one of the tighter state, or a nil row. -/
abbrev Ren := List (Nat × Option Nat)

def Ren.get (m : Ren) (id : Nat) : Option (Option Nat) := match m with
  | [] => none
  | (j, x) :: r => if j = id then some x else Ren.get r id

def Ren.hasVal (m : Ren) (x : Nat) : Bool := match m with
  | [] => false
  | (_, y) :: r => (match y with
    | some y => y == x
    | none => false) || Ren.hasVal r x

def bindR (n : Nat) (m : Ren) (id : Nat) (x : Option Nat) : Option Ren :=
  match m.get id with
  | some y => match x, y with
    | some a, some b => if a = b then some m else none
    | none, none => some m
    | _, _ => none
  | none => if id < n then match x with
      | some a => if m.hasVal a then none else some ((id, x) :: m)
      | none => some ((id, x) :: m)
    else none

mutual
/-- The first value is at least what the second one says. -/
def leV (n : Nat) (m : Ren) : AV → AV → Option (Ren × Prop)
  | .u, y => match y with
    | .u => some (m, True)
    | _ => none
  | .n k i, y => match y with
    | .u => some (m, True)
    | .n k' j => if k = k' then some (m, i = j) else none
    | .i k' j => if k = k' then some (m, i = j) else none
    | _ => none
  | .i k i, y => match y with
    | .u => some (m, True)
    | .n k' j => if k = k' then some (m, i = j) else none
    | .i k' j => if k = k' then some (m, i = j) else none
    | _ => none
  | .b x, y => match y with
    | .u => some (m, True)
    | .b z => some (m, x = z)
    | .c z => some (m, x = z)
    | _ => none
  | .c x, y => match y with
    | .u => some (m, True)
    | .b z => some (m, x = z)
    | .c z => some (m, x = z)
    | _ => none
  | .str x, y => match y with
    | .u => some (m, True)
    | .str z => some (m, x = z)
    | _ => none
  | .v x, y => match y with
    | .u => some (m, True)
    | .s id _ lo len => match x with
      | .slice none 0 0 => match bindR n m id none with
        | some m' => some (m', lo.v = 0 ∧ len.v = 0)
        | none => none
      | _ => none
    | .v z => some (m, x = z)
    | _ => none
  | .p id off, y => match y with
    | .u => some (m, True)
    | .p id' off' => if off = off' then match bindR n m id' (some id) with
        | some m' => some (m', True)
        | none => none
      else none
    | _ => none
  | .s id w lo len, y => match y with
    | .u => some (m, True)
    | .s id' w' lo' len' => if w = w' then match bindR n m id' (some id) with
        | some m' => some (m', lo.v = lo'.v ∧ len.v = len'.v)
        | none => none
      else none
    | _ => none
  | .x rc, y => match y with
    | .u => some (m, True)
    | .x rc' => some (m, rc = rc')
    | _ => none
  | .f fn a b, y => match y with
    | .u => some (m, True)
    | .f fn' a' b' => if fn = fn' then match leL n m a a' with
        | some (m1, p) => match leL n m1 b b' with
          | some (m2, q) => some (m2, p ∧ q)
          | none => none
        | none => none
      else none
    | _ => none
  | .a l, y => match y with
    | .u => some (m, True)
    | .a l' => leL n m l l'
    | _ => none
  | .t l, y => match y with
    | .u => some (m, True)
    | .t l' => leL n m l l'
    | _ => none
  | .vec k w xs, y => match y with
    | .vec k' w' ys => if k = k' ∧ w = w' then some (m, xs = ys) else none
    | _ => none
  | .pe _ _ _, y => match y with
    | .u => some (m, True)
    | _ => none
  | .q _ _ _ _, y => match y with
    | .u => some (m, True)
    | _ => none
  | .xq _ _ _, y => match y with
    | .u => some (m, True)
    | _ => none
  | .nx _ _ _, y => match y with
    | .u => some (m, True)
    | _ => none
  | .yl id, y => match y with
    | .u => some (m, True)
    | .yl id' => match bindR n m id' (some id) with
      | some m' => some (m', True)
      | none => none
    | _ => none
  | .sd _ _ _, y => match y with
    | .u => some (m, True)
    | _ => none
def leL (n : Nat) (m : Ren) : List AV → List AV → Option (Ren × Prop)
  | [], y => match y with
    | [] => some (m, True)
    | _ => none
  | a :: l, y => match y with
    | [] => none
    | b :: r => match leV n m a b with
      | some (m1, p) => match leL n m1 l r with
        | some (m2, q) => some (m2, p ∧ q)
        | none => none
      | none => none
end

/-- The blocks, by and by. -/
def leH (n : Nat) (cur : List AB) : Ren → Nat → List AB → Option (Ren × Prop)
  | m, _, [] => some (m, True)
  | m, k, ab :: r => match ab with
    | .gone => leH n cur m (k + 1) r
    | .cells ty l => match m.get k with
      | some (some id) => match cur.getD id .gone with
        | .cells ty0 l0 => if ty = none ∨ ty0 = ty then match leL n m l0 l with
          | some (m1, p) => match leH n cur m1 (k + 1) r with
            | some (m2, q) => some (m2, p ∧ q)
            | none => none
          | none => none
          else none
        | _ => none
      | _ => none
    | .row ty rc => match m.get k with
      | some (some id) => match cur.getD id .gone with
        | .row ty0 rc0 => if ty = none ∨ ty0 = ty then match leH n cur m (k + 1) r with
          | some (m2, q) => some (m2, rc0 = rc ∧ q)
          | none => none
          else none
        | _ => none
      | some none => match leH n cur m (k + 1) r with
        | some (m2, q) => some (m2, rc.len = 0 ∧ q)
        | none => none
      | none => none
    | .it s pos => match m.get k with
      | some (some id) => match cur.getD id .gone with
        | .it s0 pos0 => match leH n cur m (k + 1) r with
          | some (m2, q) => some (m2, (s0 = s ∧ pos0 = pos) ∧ q)
          | none => none
        | _ => none
      | _ => none
    | .lp st pend tms key => match m.get k with
      | some (some id) => match cur.getD id .gone with
        | .lp st0 pend0 tms0 key0 => match leL n m tms0 tms with
          | some (m1, p) => match leH n cur m1 (k + 1) r with
            | some (m2, q) => some (m2, (p ∧ st0 = st ∧ pend0 = pend ∧ key0 = key) ∧ q)
            | none => none
          | none => none
        | _ => none
      | _ => none
    | .df => match m.get k with
      | some (some id) => match cur.getD id .gone with
        | .df => leH n cur m (k + 1) r
        | _ => none
      | _ => none

def ren0 : Nat → Ren
  | 0 => []
  | n + 1 => (n, some n) :: ren0 n

def leSt (na : Nat) (cur inv : St) : Prop :=
  if inv.heap.length < na then False else
  match leL inv.heap.length (ren0 na) cur.tmps inv.tmps with
  | some (m, p) => match leL inv.heap.length m cur.ds inv.ds with
    | some (m, p2) => match leH inv.heap.length cur.heap m 0 inv.heap with
      | some (_, q) => p ∧ p2 ∧ q
      | none => False
    | none => False
  | none => False

/-- The places of the looser state's blocks. -/
def Ren.eta (m : Ren) (η : Eta) : Eta := fun id => match m.get id with
  | some (some j) => η j
  | some none => some ⟨0, 0, 0⟩
  | none => none

def Ren.le (m m' : Ren) : Prop := ∀ id x, m.get id = some x → m'.get id = some x
theorem Ren.le_refl (m : Ren) : m.le m := fun _ _ h => h
theorem Ren.le_trans {a b c : Ren} (h : a.le b) (h' : b.le c) : a.le c := fun _ _ e => h' _ _ (h _ _ e)

theorem Ren.eta_le {m m' : Ren} {η : Eta} (h : m.le m') : ∀ id A, m.eta η id = some A → m'.eta η id = some A := by
  intro id A hA
  unfold Ren.eta at hA ⊢
  cases hg : m.get id with
  | none => rw [hg] at hA; cases hA
  | some x => rw [hg] at hA; rw [h _ _ hg]; exact hA

structure RenOk (n : Nat) (m : Ren) : Prop where
  inj : ∀ id id' a, m.get id = some (some a) → m.get id' = some (some a) → id = id'
  lt : ∀ id x, m.get id = some x → id < n
  val : ∀ a, Ren.hasVal m a = false → ∀ id, m.get id ≠ some (some a)

theorem bindR_ok {n : Nat} {m m' : Ren} {id : Nat} {x : Option Nat} (hm : RenOk n m) (h : bindR n m id x = some m') : RenOk n m' ∧ m.le m' ∧ m'.get id = some x := by
  unfold bindR at h
  split at h
  · rename_i y hy
    split at h
    · split at h
      · rename_i e; subst e; cases h; exact ⟨hm, m.le_refl, hy⟩
      · cases h
    · cases h; exact ⟨hm, m.le_refl, hy⟩
    · cases h
  · rename_i hy
    split at h
    · rename_i hlt
      have key : ∀ x, (∀ a, x = some a → Ren.hasVal m a = false) → RenOk n ((id, x) :: m) ∧ m.le ((id, x) :: m) ∧ Ren.get ((id, x) :: m) id = some x := by
        intro x hx
        refine ⟨⟨?_, ?_, ?_⟩, ?_, by simp [Ren.get]⟩
        · intro i j a h1 h2
          simp only [Ren.get] at h1 h2
          split at h1 <;> split at h2
          · omega
          · rename_i e _; cases h1
            exact absurd h2 (hm.val a (hx a rfl) j)
          · cases h2
            exact absurd h1 (hm.val a (hx a rfl) i)
          · exact hm.inj i j a h1 h2
        · intro i y h1
          simp only [Ren.get] at h1
          split at h1
          · omega
          · exact hm.lt i y h1
        · intro a ha i h1
          simp only [Ren.hasVal, Bool.or_eq_false_iff] at ha
          simp only [Ren.get] at h1
          split at h1
          · cases h1; simp at ha
          · exact hm.val a ha.2 i h1
        · intro i y h1
          simp only [Ren.get]
          split
          · rename_i e; subst e; rw [hy] at h1; cases h1
          · exact h1
      split at h
      · split at h
        · cases h
        · rename_i a hv
          cases h
          exact key _ (fun b hb => by cases hb; simpa using hv)
      · cases h
        exact key _ (fun b hb => by cases hb)
    · cases h

section
variable {E : Env} {η : Eta}

/-- What the comparison of two values shows. -/
def LeV (E : Env) (η : Eta) (n : Nat) (m m' : Ren) (x y : AV) : Prop :=
  RenOk n m' ∧ m.le m' ∧ ((∃ k w xs, y = .vec k w xs ∧ x = .vec k w xs) ∨ ((∀ k w xs, x ≠ .vec k w xs) ∧ (∀ k w xs, y ≠ .vec k w xs) ∧ ∀ v, Mat E η x v → Mat E (m'.eta η) y v))
def LeL (E : Env) (η : Eta) (n : Nat) (m m' : Ren) (x y : List AV) : Prop :=
  RenOk n m' ∧ m.le m' ∧ (∀ vs, MatL E η x vs → MatL E (m'.eta η) y vs) ∧ (∀ vs, MatC E η x vs → MatC E (m'.eta η) y vs)

theorem leV_u {n : Nat} {m : Ren} {x : AV} (hm : RenOk n m) (hx : ∀ k w xs, x ≠ .vec k w xs) : LeV E η n m m x .u := ⟨hm, m.le_refl, .inr ⟨hx, by simp, fun _ _ => by simp [Mat]⟩⟩
theorem leV_same {n : Nat} {m : Ren} {x y : AV} (hm : RenOk n m) (hx : ∀ k w xs, x ≠ .vec k w xs) (hy : ∀ k w xs, y ≠ .vec k w xs) (h : ∀ v, Mat E η x v → Mat E (m.eta η) y v) : LeV E η n m m x y :=
  ⟨hm, m.le_refl, .inr ⟨hx, hy, h⟩⟩

theorem eta_at {m : Ren} {id id0 : Nat} (h : m.get id = some (some id0)) : m.eta η id = η id0 := by simp [Ren.eta, h]
theorem eta_nil {m : Ren} {id : Nat} (h : m.get id = some none) : m.eta η id = some ⟨0, 0, 0⟩ := by simp [Ren.eta, h]

mutual
theorem leV_ok {n : Nat} : ∀ (x : AV) {m m' : Ren} {y : AV} {p : Prop}, RenOk n m → leV n m x y = some (m', p) → p → LeV E η n m m' x y
  | .u, m, m', y, p, hm, h, hp => by
    simp only [leV] at h
    split at h <;> first | (cases h; done) | (cases h; exact leV_u hm (by simp))
  | .n k i, m, m', y, p, hm, h, hp => by
    simp only [leV] at h
    split at h
    · cases h; exact leV_u hm (by simp)
    · split at h
      · rename_i e; subst e; cases h
        exact leV_same hm (by simp) (by simp) (fun v hv => by simp only [Mat] at hv ⊢; rw [hv, hp])
      · cases h
    · split at h
      · rename_i e; subst e; cases h
        exact leV_same hm (by simp) (by simp) (fun v hv => by simp only [Mat] at hv ⊢; rw [hv, hp])
      · cases h
    · cases h
  | .i k i, m, m', y, p, hm, h, hp => by
    simp only [leV] at h
    split at h
    · cases h; exact leV_u hm (by simp)
    · split at h
      · rename_i e; subst e; cases h
        exact leV_same hm (by simp) (by simp) (fun v hv => by simp only [Mat] at hv ⊢; rw [hv, hp])
      · cases h
    · split at h
      · rename_i e; subst e; cases h
        exact leV_same hm (by simp) (by simp) (fun v hv => by simp only [Mat] at hv ⊢; rw [hv, hp])
      · cases h
    · cases h
  | .b x, m, m', y, p, hm, h, hp => by
    simp only [leV] at h
    split at h
    · cases h; exact leV_u hm (by simp)
    · cases h
      exact leV_same hm (by simp) (by simp) (fun v hv => by simp only [Mat] at hv ⊢; rw [hv, hp])
    · cases h
      exact leV_same hm (by simp) (by simp) (fun v hv => by simp only [Mat] at hv ⊢; rw [hv, hp])
    · cases h
  | .c x, m, m', y, p, hm, h, hp => by
    simp only [leV] at h
    split at h
    · cases h; exact leV_u hm (by simp)
    · cases h
      exact leV_same hm (by simp) (by simp) (fun v hv => by simp only [Mat] at hv ⊢; rw [hv, hp])
    · cases h
      exact leV_same hm (by simp) (by simp) (fun v hv => by simp only [Mat] at hv ⊢; rw [hv, hp])
    · cases h
  | .str x, m, m', y, p, hm, h, hp => by
    simp only [leV] at h
    split at h
    · cases h; exact leV_u hm (by simp)
    · cases h
      exact leV_same hm (by simp) (by simp) (fun v hv => by simp only [Mat] at hv ⊢; rw [hv, hp])
    · cases h
  | .v x, m, m', y, p, hm, h, hp => by
    simp only [leV] at h
    split at h
    · cases h; exact leV_u hm (by simp)
    · split at h
      · split at h
        · rename_i m1 hb
          cases h
          obtain ⟨r1, r2, r3⟩ := bindR_ok hm hb
          refine ⟨r1, r2, .inr ⟨by simp, by simp, fun v hv => ?_⟩⟩
          simp only [Mat] at hv ⊢
          subst hv
          exact ⟨_, none, 0, eta_nil r3, by rw [hp.2]; exact Nat.le_refl _, by simp [hp.1], by rw [hp.2], fun h => by cases h⟩
        · cases h
      · cases h
    · cases h
      exact leV_same hm (by simp) (by simp) (fun v hv => by simp only [Mat] at hv ⊢; rw [hv, hp])
    · cases h
  | .p id off, m, m', y, p, hm, h, hp => by
    simp only [leV] at h
    split at h
    · cases h; exact leV_u hm (by simp)
    · split at h
      · rename_i e; subst e
        split at h
        · rename_i m1 hb
          cases h
          obtain ⟨r1, r2, r3⟩ := bindR_ok hm hb
          refine ⟨r1, r2, .inr ⟨by simp, by simp, fun v hv => ?_⟩⟩
          simp only [Mat] at hv ⊢
          rw [eta_at r3]; exact hv
        · cases h
      · cases h
    · cases h
  | .s id w lo len, m, m', y, p, hm, h, hp => by
    simp only [leV] at h
    split at h
    · cases h; exact leV_u hm (by simp)
    · split at h
      · rename_i e; subst e
        split at h
        · rename_i m1 hb
          cases h
          obtain ⟨r1, r2, r3⟩ := bindR_ok hm hb
          refine ⟨r1, r2, .inr ⟨by simp, by simp, fun v hv => ?_⟩⟩
          simp only [Mat] at hv ⊢
          rw [eta_at r3, ← hp.1, ← hp.2]; exact hv
        · cases h
      · cases h
    · cases h
  | .x rc, m, m', y, p, hm, h, hp => by
    simp only [leV] at h
    split at h
    · cases h; exact leV_u hm (by simp)
    · cases h
      subst hp
      exact leV_same hm (by simp) (by simp) (fun v hv => by simp only [Mat] at hv ⊢; exact hv)
    · cases h
  | .f fn a b, m, m', y, p, hm, h, hp => by
    simp only [leV] at h
    split at h
    · cases h; exact leV_u hm (by simp)
    · split at h
      · rename_i e; subst e
        split at h
        · rename_i m1 p1 h1
          split at h
          · rename_i m2 p2 h2
            cases h
            obtain ⟨r1, r2, r3, _⟩ := leL_ok a hm h1 hp.1
            obtain ⟨q1, q2, q3, _⟩ := leL_ok b r1 h2 hp.2
            refine ⟨q1, Ren.le_trans r2 q2, .inr ⟨by simp, by simp, fun v hv => ?_⟩⟩
            simp only [Mat] at hv ⊢
            obtain ⟨x, z, e1, e2, e3⟩ := hv
            exact ⟨x, z, e1, (r3 _ e2).mono (Ren.eta_le q2), q3 _ e3⟩
          · cases h
        · cases h
      · cases h
    · cases h
  | .a l, m, m', y, p, hm, h, hp => by
    simp only [leV] at h
    split at h
    · cases h; exact leV_u hm (by simp)
    · obtain ⟨r1, r2, _, r4⟩ := leL_ok l hm h hp
      refine ⟨r1, r2, .inr ⟨by simp, by simp, fun v hv => ?_⟩⟩
      simp only [Mat] at hv ⊢
      obtain ⟨cs, e1, e2⟩ := hv
      exact ⟨cs, e1, r4 _ e2⟩
    · cases h
  | .t l, m, m', y, p, hm, h, hp => by
    simp only [leV] at h
    split at h
    · cases h; exact leV_u hm (by simp)
    · obtain ⟨r1, r2, r3, _⟩ := leL_ok l hm h hp
      refine ⟨r1, r2, .inr ⟨by simp, by simp, fun v hv => ?_⟩⟩
      simp only [Mat] at hv ⊢
      obtain ⟨cs, e1, e2⟩ := hv
      exact ⟨cs, e1, r3 _ e2⟩
    · cases h
  | .vec k w xs, m, m', y, p, hm, h, hp => by
    simp only [leV] at h
    split at h
    · split at h
      · rename_i e; obtain ⟨rfl, rfl⟩ := e
        cases h
        subst hp
        exact ⟨hm, m.le_refl, .inl ⟨_, _, _, rfl, rfl⟩⟩
      · cases h
    · cases h
  | .pe _ _ _, m, m', y, p, hm, h, hp => by
    simp only [leV] at h
    split at h <;> first | (cases h; done) | (cases h; exact leV_u hm (by simp))
  | .q _ _ _ _, m, m', y, p, hm, h, hp => by
    simp only [leV] at h
    split at h <;> first | (cases h; done) | (cases h; exact leV_u hm (by simp))
  | .xq _ _ _, m, m', y, p, hm, h, hp => by
    simp only [leV] at h
    split at h <;> first | (cases h; done) | (cases h; exact leV_u hm (by simp))
  | .nx _ _ _, m, m', y, p, hm, h, hp => by
    simp only [leV] at h
    split at h <;> first | (cases h; done) | (cases h; exact leV_u hm (by simp))
  | .sd _ _ _, m, m', y, p, hm, h, hp => by
    simp only [leV] at h
    split at h <;> first | (cases h; done) | (cases h; exact leV_u hm (by simp))
  | .yl id, m, m', y, p, hm, h, hp => by
    simp only [leV] at h
    split at h
    · cases h; exact leV_u hm (by simp)
    · split at h
      · rename_i m1 hb
        cases h
        obtain ⟨r1, r2, r3⟩ := bindR_ok hm hb
        refine ⟨r1, r2, .inr ⟨by simp, by simp, fun v hv => ?_⟩⟩
        simp only [Mat] at hv ⊢
        rw [eta_at r3]; exact hv
      · cases h
    · cases h
theorem leL_ok {n : Nat} : ∀ (x : List AV) {m m' : Ren} {y : List AV} {p : Prop}, RenOk n m → leL n m x y = some (m', p) → p → LeL E η n m m' x y
  | [], m, m', y, p, hm, h, hp => by
    simp only [leL] at h
    split at h
    · cases h
      exact ⟨hm, m.le_refl, fun vs hv => by simpa [MatL] using hv, fun vs hv => by simpa [MatC] using hv⟩
    · cases h
  | a :: l, m, m', y, p, hm, h, hp => by
    simp only [leL] at h
    split at h
    · cases h
    · rename_i b r
      split at h
      · rename_i m1 p1 h1
        split at h
        · rename_i m2 p2 h2
          cases h
          obtain ⟨r1, r2, r3⟩ := leV_ok a hm h1 hp.1
          obtain ⟨q1, q2, q3, q4⟩ := leL_ok l r1 h2 hp.2
          refine ⟨q1, Ren.le_trans r2 q2, fun vs hv => ?_, fun vs hv => ?_⟩
          · simp only [MatL] at hv ⊢
            obtain ⟨v, t, rfl, e1, e2⟩ := hv
            rcases r3 with ⟨k, w, xs, rfl, rfl⟩ | ⟨_, _, r3⟩
            · simp [Mat] at e1
            · exact ⟨v, t, rfl, (r3 v e1).mono (Ren.eta_le q2), q3 _ e2⟩
          · rcases r3 with ⟨k, w, xs, rfl, rfl⟩ | ⟨n1, n2, r3⟩
            · simp only [MatC] at hv ⊢
              obtain ⟨e0, t, rfl, e1⟩ := hv
              exact ⟨e0, t, rfl, q4 _ e1⟩
            · rw [matC_cons n1] at hv
              rw [matC_cons n2]
              obtain ⟨v, t, rfl, e0, e1, e2⟩ := hv
              exact ⟨v, t, rfl, e0, (r3 v e1).mono (Ren.eta_le q2), q4 _ e2⟩
        · cases h
      · cases h
end

theorem tyOk_le {ty ty0 : Option TypeId} {t : TypeId} {fr : Nat × Nat} (h : ty = none ∨ ty0 = ty) (h0 : tyOk ty0 t fr) : tyOk ty t fr := by
  rcases h with rfl | rfl
  · exact tyOk_none
  · exact h0

/-- What is shown of a block. -/
def BlkLe (E : Env) (η : Eta) (m : Ren) (cur : List AB) (w : World) (k : Nat) (ab : AB) : Prop :=
  ab.live = true → ∃ A, m.eta η k = some A ∧ BlkOk E (m.eta η) w A ab ∧ ((A = ⟨0, 0, 0⟩ ∧ m.get k = some none) ∨ ∃ id, m.get k = some (some id) ∧ η id = some A ∧ (cur.getD id .gone).live = true)

theorem leH_ok {n : Nat} {cur : List AB} {D : Nat → Prop} {w : World} (hH : Heap E η (fun id => cur.getD id .gone) D w) : ∀ (l : List AB) (k : Nat) {m m' : Ren} {p : Prop}, RenOk n m → leH n cur m k l = some (m', p) → p →
    RenOk n m' ∧ m.le m' ∧ ∀ i ab, l[i]? = some ab → BlkLe E η m' cur w (k + i) ab
  | [], k, m, m', p, hm, h, hp => by
    simp only [leH] at h; cases h
    exact ⟨hm, m.le_refl, fun i ab h => by simp at h⟩
  | ab :: l, k, m, m', p, hm, h, hp => by
    have glue : ∀ {m1 m2 : Ren} {q : Prop}, RenOk n m1 → m.le m1 → leH n cur m1 (k + 1) l = some (m2, q) → q → (∀ m2 : Ren, m1.le m2 → BlkLe E η m2 cur w k ab) →
        RenOk n m2 ∧ m.le m2 ∧ ∀ i ab', (ab :: l)[i]? = some ab' → BlkLe E η m2 cur w (k + i) ab' := by
      intro m1 m2 q h1 h2 h3 h4 h5
      obtain ⟨r1, r2, r3⟩ := leH_ok hH l (k + 1) h1 h3 h4
      refine ⟨r1, Ren.le_trans h2 r2, fun i ab' hi => ?_⟩
      cases i with
      | zero => simp at hi; subst hi; exact h5 m2 r2
      | succ i => rw [show k + (i + 1) = k + 1 + i by omega]; exact r3 i ab' (by simpa using hi)
    cases ab with
    | gone =>
      simp only [leH] at h
      exact glue hm m.le_refl h hp (fun _ _ hl => by cases hl)
    | cells ty c =>
      simp only [leH] at h
      split at h
      · rename_i id hg
        split at h
        · rename_i ty0 c0 hc
          split at h
          case isFalse => cases h
          rename_i hty
          split at h
          · rename_i m1 p1 h1
            split at h
            · rename_i m2 p2 h2
              cases h
              obtain ⟨r1, r2, _, r4⟩ := leL_ok (E := E) (η := η) c0 hm h1 hp.1
              refine glue r1 r2 h2 hp.2 fun m3 hm3 _ => ?_
              have hl : (cur.getD id .gone).live = true := by rw [hc]; rfl
              obtain ⟨A, hA, hb, _⟩ := hH.hp id hl
              simp only [hc] at hb
              obtain ⟨g0, cs, t, fr, g1, g2, g3, g9⟩ := hb
              have hg3 := hm3 _ _ (r2 _ _ hg)
              exact ⟨A, by rw [eta_at hg3]; exact hA, ⟨g0, cs, t, fr, g1, g2, (r4 _ g3).mono (Ren.eta_le hm3), tyOk_le hty g9⟩, .inr ⟨id, hg3, hA, hl⟩⟩
            · cases h
          · cases h
        · cases h
      · cases h
    | row ty rc =>
      simp only [leH] at h
      split at h
      · rename_i id hg
        split at h
        · rename_i ty0 rc0 hc
          split at h
          case isFalse => cases h
          rename_i hty
          split at h
          · rename_i m2 p2 h2
            cases h
            obtain ⟨rfl, hp⟩ := hp
            refine glue hm m.le_refl h2 hp fun m3 hm3 _ => ?_
            have hl : (cur.getD id .gone).live = true := by rw [hc]; rfl
            obtain ⟨A, hA, hb, _⟩ := hH.hp id hl
            simp only [hc] at hb
            have hg3 := hm3 _ _ hg
            exact ⟨A, by rw [eta_at hg3]; exact hA, ⟨hb.1, fun h0 => let ⟨cs, t, fr, r1, r2, r3, r4, r5, r6⟩ := hb.2 h0; ⟨cs, t, fr, r1, r2, r3, r4, tyOk_le hty r5, fun hn => r6 (by rcases hty with h | h; exact absurd h hn; rw [h]; exact hn)⟩⟩, .inr ⟨id, hg3, hA, hl⟩⟩
          · cases h
        · cases h
      · rename_i hg
        split at h
        · rename_i m2 p2 h2
          cases h
          refine glue hm m.le_refl h2 hp.2 fun m3 hm3 _ => ?_
          have hg3 := hm3 _ _ hg
          exact ⟨⟨0, 0, 0⟩, eta_nil hg3, ⟨by rw [hp.1]; exact Nat.le_refl _, fun h => by cases h⟩, .inl ⟨rfl, hg3⟩⟩
        · cases h
      · cases h
    | it s pos =>
      simp only [leH] at h
      split at h
      · rename_i id hg
        split at h
        · rename_i s0 pos0 hc
          split at h
          · rename_i m2 p2 h2
            cases h
            obtain ⟨⟨rfl, rfl⟩, hp⟩ := hp
            refine glue hm m.le_refl h2 hp fun m3 hm3 _ => ?_
            have hl : (cur.getD id .gone).live = true := by rw [hc]; rfl
            obtain ⟨A, hA, hb, _⟩ := hH.hp id hl
            simp only [hc] at hb
            have hg3 := hm3 _ _ hg
            exact ⟨A, by rw [eta_at hg3]; exact hA, hb, .inr ⟨id, hg3, hA, hl⟩⟩
          · cases h
        · cases h
      · cases h
    | lp st pend tms key =>
      simp only [leH] at h
      split at h
      · rename_i id hg
        split at h
        · rename_i st0 pend0 tms0 key0 hc
          split at h
          · rename_i m1 p1 h1
            split at h
            · rename_i m2 p2 h2
              cases h
              obtain ⟨⟨hp1, rfl, rfl, rfl⟩, hp⟩ := hp
              obtain ⟨r1, r2, r4, _⟩ := leL_ok (E := E) (η := η) tms0 hm h1 hp1
              refine glue r1 r2 h2 hp fun m3 hm3 _ => ?_
              have hl : (cur.getD id .gone).live = true := by rw [hc]; rfl
              obtain ⟨A, hA, hb, _⟩ := hH.hp id hl
              simp only [hc] at hb
              obtain ⟨g0, g1, rec, g2, g3, g4, g5, g6, g7, g8⟩ := hb
              have hg3 := hm3 _ _ (r2 _ _ hg)
              exact ⟨A, by rw [eta_at hg3]; exact hA, ⟨g0, g1, rec, g2, g3, g4, g5, g6, g7, (r4 _ g8).mono (Ren.eta_le hm3)⟩, .inr ⟨id, hg3, hA, hl⟩⟩
            · cases h
          · cases h
        · cases h
      · cases h
    | df =>
      simp only [leH] at h
      split at h
      · rename_i id hg
        split at h
        · rename_i hc
          refine glue hm m.le_refl h hp fun m3 hm3 _ => ?_
          have hl : (cur.getD id .gone).live = true := by rw [hc]; rfl
          obtain ⟨A, hA, hb, _⟩ := hH.hp id hl
          simp only [hc] at hb
          have hg3 := hm3 _ _ hg
          exact ⟨A, by rw [eta_at hg3]; exact hA, hb, .inr ⟨id, hg3, hA, hl⟩⟩
        · cases h
      · cases h

theorem ren0_get : ∀ (n id : Nat) (x : Option Nat), (ren0 n).get id = some x → id < n ∧ x = some id
  | 0, id, x, h => by cases h
  | n + 1, id, x, h => by
    simp only [ren0, Ren.get] at h
    split at h
    · rename_i e; cases h; subst e; exact ⟨Nat.lt_succ_self _, rfl⟩
    · obtain ⟨h1, h2⟩ := ren0_get n id x h; exact ⟨by omega, h2⟩
theorem ren0_at : ∀ (n id : Nat), id < n → (ren0 n).get id = some (some id)
  | 0, id, h => by omega
  | n + 1, id, h => by
    simp only [ren0, Ren.get]
    split
    · rename_i e; rw [e]
    · exact ren0_at n id (by omega)
theorem ren0_val : ∀ (n a : Nat), Ren.hasVal (ren0 n) a = false → n ≤ a
  | 0, a, _ => Nat.zero_le _
  | n + 1, a, h => by
    simp only [ren0, Ren.hasVal, Bool.or_eq_false_iff, beq_eq_false_iff_ne] at h
    have := ren0_val n a h.2
    omega
theorem ren0_ok {na n : Nat} (h : na ≤ n) : RenOk n (ren0 na) :=
  ⟨fun id id' a h1 h2 => by
    have e1 := (ren0_get na id _ h1).2
    have e2 := (ren0_get na id' _ h2).2
    cases e1; cases e2; rfl,
   fun id x h1 => Nat.lt_of_lt_of_le (ren0_get na id x h1).1 h,
   fun a h1 id h2 => by
    obtain ⟨h3, h4⟩ := ren0_get na id _ h2
    have e : a = id := by simpa using h4
    have := ren0_val na a h1
    omega⟩

theorem matL_tmps : ∀ {l : List AV} {vs : List Value}, (∀ t, t < l.length → Mat E η (l.getD t .u) (vs.getD t undef)) → l.length = vs.length → MatL E η l vs
  | [], [], _, _ => by simp [MatL]
  | [], _ :: _, _, h => by simp at h
  | _ :: _, [], _, h => by simp at h
  | a :: l, v :: vs, h, hl => by
    simp only [MatL]
    exact ⟨v, vs, rfl, h 0 (by simp), matL_tmps (fun t ht => by simpa using h (t + 1) (by simpa using ht)) (by simpa using hl)⟩

theorem leSt_ok {na : Nat} {cur inv : St} {a : Act} {w : World} (hna : ∀ j A, E.an j = some A → j < na) (hf : Fits E cur a w η) (h : leSt na cur inv) : ∃ η', Fits E inv a w η' := by
  unfold leSt at h
  split at h
  · exact h.elim
  rename_i hle
  split at h
  · rename_i mm p h1
    split at h
    · rename_i m p2 hd
      split at h
      case h_2 => exact h.elim
      rename_i m' q h2
      obtain ⟨hmd1, hmd2⟩ := hf.df
      have ml : MatL E η cur.tmps a.tmps.toList := by
        refine matL_tmps (fun t ht => ?_) (by simp [hf.sz])
        have := hf.tm t
        simpa [Array.getD_eq_getD_getElem?] using this
      obtain ⟨r0, rd0, r3, _⟩ := leL_ok (E := E) (η := η) cur.tmps (ren0_ok (Nat.le_of_not_lt hle)) h1 h.1
      obtain ⟨r1, rd2, rd3, _⟩ := leL_ok (E := E) (η := η) cur.ds r0 hd h.2.1
      obtain ⟨q1, q2, q3⟩ := leH_ok hf.hp inv.heap 0 r1 h2 h.2.2
      have ml2 := ((r3 _ ml).mono (Ren.eta_le (η := η) rd2)).mono (Ren.eta_le (η := η) q2)
      have hlen : inv.tmps.length = a.tmps.toList.length := by
        have gen : ∀ {l : List AV} {vs : List Value}, MatL E (m'.eta η) l vs → l.length = vs.length := by
          intro l
          induction l with
          | nil => intro vs h; simp only [MatL] at h; subst h; rfl
          | cons a l ih => intro vs h; simp only [MatL] at h; obtain ⟨v, r, rfl, _, h3⟩ := h; simp [ih h3]
        exact gen ml2
      have blk : ∀ id, (inv.heap.getD id .gone).live = true → BlkLe E η m' cur.heap w id (inv.heap.getD id .gone) := by
        intro id hl
        have hlt : id < inv.heap.length := by
          rcases Nat.lt_or_ge id inv.heap.length with h | h
          · exact h
          · rw [List.getD_eq_getElem?_getD, List.getElem?_eq_none h] at hl; cases hl
        have := q3 id inv.heap[id] (by simp [hlt])
        simpa [List.getD_eq_getElem?_getD, hlt] using this
      refine ⟨m'.eta η, ⟨fun t => ?_, by rw [← Array.length_toList, ← hlen], ⟨hmd1, (rd3 _ hmd2.1).mono (Ren.eta_le (η := η) q2), hmd2.2⟩, ⟨?_, ?_, hf.hp.fr, hf.hp.sz, ?_, hf.hp.bg, fun j A hj => by
        have hj0 := hna j A hj
        rw [eta_at (q2 _ _ (rd2 _ _ (rd0 _ _ (ren0_at na j hj0))))]
        exact hf.hp.an j A hj⟩⟩⟩
      · by_cases ht : t < inv.tmps.length
        · obtain ⟨v, g1, g2⟩ := matL_get (i := t) (a := inv.tmps[t]) ml2 (by simp [ht])
          have e1 : a.tmps[t]? = some v := by simpa using g1
          simp only [List.getD_eq_getElem?_getD, Array.getD_eq_getD_getElem?, e1, ht, List.getElem?_eq_getElem, Option.getD_some]
          exact g2
        · rw [List.getD_eq_getElem?_getD, List.getElem?_eq_none (by omega)]; simp [Mat]
      · intro id hl
        obtain ⟨A, e1, e2, e3⟩ := blk id hl hl
        refine ⟨A, e1, e2, fun hc => ?_⟩
        rcases e3 with ⟨rfl, _⟩ | ⟨id0, _, e4, e5⟩
        · cases hc
        · obtain ⟨B, hB, _, hlt⟩ := hf.hp.hp id0 e5
          rw [e4] at hB; cases hB
          exact hlt hc
      · intro id id' A A' hne hl hl' hA hA' hc hc'
        obtain ⟨B, e1, _, e3⟩ := blk id hl hl
        obtain ⟨B', e1', _, e3'⟩ := blk id' hl' hl'
        rw [hA] at e1; cases e1
        rw [hA'] at e1'; cases e1'
        rcases e3 with ⟨rfl, _⟩ | ⟨x, g1, g2, g3⟩
        · cases hc
        · rcases e3' with ⟨rfl, _⟩ | ⟨x', g1', g2', g3'⟩
          · cases hc'
          · have hxx : x ≠ x' := by rintro rfl; exact hne (q1.inj _ _ _ g1 g1')
            exact hf.hp.ds x x' A A' hxx g3 g3' g2 g2' hc hc'
      · intro id A hA
        unfold Ren.eta at hA
        cases hg : m'.get id with
        | none => rw [hg] at hA; cases hA
        | some x => exact q1.lt id x hg
    · exact h.elim
  · exact h.elim
end
end Go.Proofs.YtkihnmpjpbfiaaaDoor.Ev
