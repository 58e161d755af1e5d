/- Names of blocks turned; accounts carried from one beginning to another. -/
import Derived.Test.YtkihnmpjpbfiaaaDoorEv18
set_option linter.unusedVariables false
set_option linter.unusedSimpArgs false
namespace Go.Proofs.YtkihnmpjpbfiaaaDoor.Ev
open Go

mutual
def AV.ren (f : Nat → Nat) : AV → AV
  | .p id o => .p (f id) o
  | .pe id b j => .pe (f id) b j
  | .q id w i g => .q (f id) w i g
  | .s id w lo len => .s (f id) w lo len
  | .yl id => .yl (f id)
  | .sd id lo len => .sd (f id) lo len
  | .f fn a b => .f fn (renL f a) (renL f b)
  | .a l => .a (renL f l)
  | .t l => .t (renL f l)
  | .u => .u
  | .n k i => .n k i
  | .i k i => .i k i
  | .b x => .b x
  | .c x => .c x
  | .str s => .str s
  | .v x => .v x
  | .x rc => .x rc
  | .xq rc i g => .xq rc i g
  | .vec k n xs => .vec k n xs
  | .nx e p r => .nx e p r
def renL (f : Nat → Nat) : List AV → List AV
  | [] => []
  | a :: l => a.ren f :: renL f l
end

def AB.ren (f : Nat → Nat) : AB → AB
  | .cells ty l => .cells ty (renL f l)
  | .lp st pend tms k => .lp st pend (renL f tms) k
  | ab => ab

mutual
/-- It names blocks below n alone, and, if so asked, no cells that came in. -/
def AV.fit (x : Bool) (n : Nat) : AV → Bool
  | .p id _ => decide (id < n)
  | .pe id _ _ => decide (id < n)
  | .q id _ _ _ => decide (id < n)
  | .s id _ _ _ => decide (id < n)
  | .yl id => decide (id < n)
  | .sd id _ _ => decide (id < n)
  | .f _ a b => fitL x n a && fitL x n b
  | .a l => fitL x n l
  | .t l => fitL x n l
  | .x _ => x
  | .xq _ _ _ => x
  | .u => true
  | .n _ _ => true
  | .i _ _ => true
  | .b _ => true
  | .c _ => true
  | .str _ => true
  | .v _ => true
  | .vec _ _ _ => true
  | .nx _ _ _ => true
def fitL (x : Bool) (n : Nat) : List AV → Bool
  | [] => true
  | a :: l => a.fit x n && fitL x n l
end

def AB.fit (x : Bool) (n : Nat) : AB → Bool
  | .cells _ l => fitL x n l
  | .lp _ _ tms _ => fitL x n tms
  | _ => true

section
variable {E E' : Env} {η η' : Eta} {f : Nat → Nat}

mutual
theorem mat_ren : ∀ {a : AV} {v : Value}, Mat E η (a.ren f) v ↔ Mat E (fun id => η (f id)) a v
  | .p .., _ => by simp only [AV.ren, Mat]
  | .pe .., _ => by simp only [AV.ren, Mat]
  | .q .., _ => by simp only [AV.ren, Mat]
  | .s .., _ => by simp only [AV.ren, Mat]
  | .yl .., _ => by simp only [AV.ren, Mat]
  | .sd .., _ => by simp only [AV.ren, Mat]
  | .f _ a b, _ => by
    simp only [AV.ren, Mat]
    constructor
    · rintro ⟨x, y, h1, h2, h3⟩; exact ⟨x, y, h1, matL_ren.1 h2, matL_ren.1 h3⟩
    · rintro ⟨x, y, h1, h2, h3⟩; exact ⟨x, y, h1, matL_ren.2 h2, matL_ren.2 h3⟩
  | .a l, _ => by
    simp only [AV.ren, Mat]
    constructor
    · rintro ⟨x, h1, h2⟩; exact ⟨x, h1, matC_ren.1 h2⟩
    · rintro ⟨x, h1, h2⟩; exact ⟨x, h1, matC_ren.2 h2⟩
  | .t l, _ => by
    simp only [AV.ren, Mat]
    constructor
    · rintro ⟨x, h1, h2⟩; exact ⟨x, h1, matL_ren.1 h2⟩
    · rintro ⟨x, h1, h2⟩; exact ⟨x, h1, matL_ren.2 h2⟩
  | .u, _ => by simp only [AV.ren, Mat]
  | .n .., _ => by simp only [AV.ren, Mat]
  | .i .., _ => by simp only [AV.ren, Mat]
  | .b .., _ => by simp only [AV.ren, Mat]
  | .c .., _ => by simp only [AV.ren, Mat]
  | .str .., _ => by simp only [AV.ren, Mat]
  | .v .., _ => by simp only [AV.ren, Mat]
  | .x .., _ => by simp only [AV.ren, Mat]
  | .xq .., _ => by simp only [AV.ren, Mat]
  | .vec .., _ => by simp only [AV.ren, Mat]
  | .nx .., _ => by simp only [AV.ren, Mat]
theorem matL_ren : ∀ {l : List AV} {vs : List Value}, MatL E η (renL f l) vs ↔ MatL E (fun id => η (f id)) l vs
  | [], _ => by simp only [renL, MatL]
  | a :: l, _ => by
    simp only [renL, MatL]
    constructor
    · rintro ⟨v, r, h1, h2, h3⟩; exact ⟨v, r, h1, mat_ren.1 h2, matL_ren.1 h3⟩
    · rintro ⟨v, r, h1, h2, h3⟩; exact ⟨v, r, h1, mat_ren.2 h2, matL_ren.2 h3⟩
theorem matC_ren : ∀ {l : List AV} {vs : List Value}, MatC E η (renL f l) vs ↔ MatC E (fun id => η (f id)) l vs
  | [], _ => by simp only [renL, MatC]
  | a :: l, _ => by
    cases a
    case vec k n xs =>
      simp only [renL, AV.ren, MatC]
      constructor
      · rintro ⟨h1, r, h2, h3⟩; exact ⟨h1, r, h2, matC_ren.1 h3⟩
      · rintro ⟨h1, r, h2, h3⟩; exact ⟨h1, r, h2, matC_ren.2 h3⟩
    all_goals
      simp only [renL, AV.ren, MatC]
      constructor
      · rintro ⟨v, r, h1, h2, h3, h4⟩
        exact ⟨v, r, h1, h2, mat_ren.1 (by simpa only [AV.ren] using h3), matC_ren.1 h4⟩
      · rintro ⟨v, r, h1, h2, h3, h4⟩
        exact ⟨v, r, h1, h2, by simpa only [AV.ren] using mat_ren.2 h3, matC_ren.2 h4⟩
end

theorem blk_ren {w : World} {A : RA} {ab : AB} : BlkOk E η w A (ab.ren f) ↔ BlkOk E (fun id => η (f id)) w A ab := by
  cases ab <;> simp only [AB.ren, BlkOk, matC_ren, matL_ren]

variable {x : Bool} {n : Nat}

mutual
theorem mat_fit (hη : ∀ j A, j < n → η j = some A → η' j = some A) (hx : x = true → ∀ b o rc, ExtAt E b o rc → ExtAt E' b o rc) : ∀ {a : AV} {v : Value}, a.fit x n = true → Mat E η a v → Mat E' η' a v
  | .p .., _, h, m => by simp only [AV.fit, decide_eq_true_eq] at h; simp only [Mat] at m ⊢; obtain ⟨A, h1, h2⟩ := m; exact ⟨A, hη _ _ h h1, h2⟩
  | .pe .., _, h, m => by simp only [AV.fit, decide_eq_true_eq] at h; simp only [Mat] at m ⊢; obtain ⟨A, h1, h2⟩ := m; exact ⟨A, hη _ _ h h1, h2⟩
  | .q .., _, h, m => by simp only [AV.fit, decide_eq_true_eq] at h; simp only [Mat] at m ⊢; obtain ⟨A, h1, h2⟩ := m; exact ⟨A, hη _ _ h h1, h2⟩
  | .s .., _, h, m => by simp only [AV.fit, decide_eq_true_eq] at h; simp only [Mat] at m ⊢; obtain ⟨A, a, c, h1, h2⟩ := m; exact ⟨A, a, c, hη _ _ h h1, h2⟩
  | .yl .., _, h, m => by simp only [AV.fit, decide_eq_true_eq] at h; simp only [Mat] at m ⊢; obtain ⟨A, h1, h2⟩ := m; exact ⟨A, hη _ _ h h1, h2⟩
  | .sd .., _, h, m => by simp only [AV.fit, decide_eq_true_eq] at h; simp only [Mat] at m ⊢; obtain ⟨A, p, h1, h2⟩ := m; exact ⟨A, p, hη _ _ h h1, h2⟩
  | .f _ a b, _, h, m => by
    simp only [AV.fit, Bool.and_eq_true] at h
    simp only [Mat] at m ⊢
    obtain ⟨p, q, h1, h2, h3⟩ := m
    exact ⟨p, q, h1, matL_fit hη hx h.1 h2, matL_fit hη hx h.2 h3⟩
  | .a l, _, h, m => by
    simp only [AV.fit] at h
    simp only [Mat] at m ⊢
    obtain ⟨p, h1, h2⟩ := m
    exact ⟨p, h1, matC_fit hη hx h h2⟩
  | .t l, _, h, m => by
    simp only [AV.fit] at h
    simp only [Mat] at m ⊢
    obtain ⟨p, h1, h2⟩ := m
    exact ⟨p, h1, matL_fit hη hx h h2⟩
  | .x rc, _, h, m => by
    simp only [AV.fit] at h
    simp only [Mat, Ext] at m ⊢
    obtain ⟨a, c, h1, h2, h3⟩ := m
    exact ⟨a, c, h1, h2, fun h0 => let ⟨b, o, e1, e2⟩ := h3 h0; ⟨b, o, e1, hx h _ _ _ e2⟩⟩
  | .xq .., _, h, m => by
    simp only [AV.fit] at h
    simp only [Mat] at m ⊢
    obtain ⟨b, o, e1, e2⟩ := m
    exact ⟨b, o, hx h _ _ _ e1, e2⟩
  | .u, _, _, m => by simp only [Mat]
  | .n .., _, _, m => by simpa only [Mat] using m
  | .i .., _, _, m => by simpa only [Mat] using m
  | .b .., _, _, m => by simpa only [Mat] using m
  | .c .., _, _, m => by simpa only [Mat] using m
  | .str .., _, _, m => by simpa only [Mat] using m
  | .v .., _, _, m => by simpa only [Mat] using m
  | .vec .., _, _, m => by simp only [Mat] at m
  | .nx .., _, _, m => by simpa only [Mat] using m
theorem matL_fit (hη : ∀ j A, j < n → η j = some A → η' j = some A) (hx : x = true → ∀ b o rc, ExtAt E b o rc → ExtAt E' b o rc) : ∀ {l : List AV} {vs : List Value}, fitL x n l = true → MatL E η l vs → MatL E' η' l vs
  | [], _, _, m => by simpa only [MatL] using m
  | a :: l, _, h, m => by
    simp only [fitL, Bool.and_eq_true] at h
    simp only [MatL] at m ⊢
    obtain ⟨v, r, h1, h2, h3⟩ := m
    exact ⟨v, r, h1, mat_fit hη hx h.1 h2, matL_fit hη hx h.2 h3⟩
theorem matC_fit (hη : ∀ j A, j < n → η j = some A → η' j = some A) (hx : x = true → ∀ b o rc, ExtAt E b o rc → ExtAt E' b o rc) : ∀ {l : List AV} {vs : List Value}, fitL x n l = true → MatC E η l vs → MatC E' η' l vs
  | [], _, _, m => by simpa only [MatC] using m
  | a :: l, _, h, m => by
    simp only [fitL, Bool.and_eq_true] at h
    cases a
    case vec k n' xs =>
      simp only [MatC] at m ⊢
      obtain ⟨h1, r, h2, h3⟩ := m
      exact ⟨h1, r, h2, matC_fit hη hx h.2 h3⟩
    all_goals
      simp only [MatC] at m ⊢
      obtain ⟨v, r, h1, h2, h3, h4⟩ := m
      exact ⟨v, r, h1, h2, mat_fit hη hx h.1 h3, matC_fit hη hx h.2 h4⟩
end

theorem blk_fit (hη : ∀ j A, j < n → η j = some A → η' j = some A) (hx : x = true → ∀ b o rc, ExtAt E b o rc → ExtAt E' b o rc) {w : World} {A : RA} {ab : AB} (h : ab.fit x n = true) (m : BlkOk E η w A ab) : BlkOk E' η' w A ab := by
  cases ab <;> simp only [BlkOk] at m ⊢ <;> try exact m
  case cells ty l =>
    obtain ⟨h0, cs, t, fr, h1, h2, h3, h4⟩ := m
    exact ⟨h0, cs, t, fr, h1, h2, matC_fit hη hx h h3, h4⟩
  case lp st pend tms k =>
    obtain ⟨h0, h1, rec, h2, h3, h4, h5, h6, h7, h8⟩ := m
    exact ⟨h0, h1, rec, h2, h3, h4, h5, h6, h7, matL_fit hη hx h h8⟩

/-- What came in lies as it lay, in whatever later world a walk begins. -/
theorem ext_later {H : Nat → AB} {D : Nat → Prop} {w : World} {S : Nat → Prop} {an : Eta} (hH : Heap E η H D w) (hS : ∀ b, S b → E.w0.heap.size ≤ b ∨ E.S0 b) {b o : Nat} {rc : RC} (h : ExtAt E b o rc) : ExtAt ⟨w, S, an⟩ b o rc := by
  obtain ⟨h1, h2, h3⟩ := h
  refine ⟨Nat.lt_of_lt_of_le h1 hH.sz, fun hs => ?_, fun j v hj => ext_cell hH ⟨h1, h2, h3⟩ hj⟩
  rcases hS b hs with h | h
  · omega
  · exact h2 h
end
end Go.Proofs.YtkihnmpjpbfiaaaDoor.Ev
