/- Abstract values and memory for a symbolic walk of Go functions, and what it means that a state of the machine fits them. -/
import Derived.CallsIn
import Derived.OrdersIn
import Derived.LoopNIn
import Derived.RangeFuncCalls
import Derived.KernelRfl
import Derived.WalkKit
set_option linter.unusedVariables false
set_option linter.unusedSimpArgs false
namespace Go.Proofs.YtkihnmpjpbfiaaaDoor.Ev
open Go

inductive CK where
  | int (k : IntKind)
  | str
  | bool

structure Cell where
  i : Int := 0
  s : ByteArray := .empty
  b : Bool := false

def CK.enc : CK → Cell → Value
  | .int k, c => .int k c.i
  | .str, c => .string c.s
  | .bool, c => .bool c.b

inductive RC where
  | bytes (l : List UInt8)
  | ints (k : IntKind) (l : List Int)
  | strs (l : List ByteArray)
  | recs (sch : List CK) (l : List (List Cell))

def recVals : List CK → List Cell → List Value
  | [], _ => []
  | c :: cs, e => c.enc (e.headD {}) :: recVals cs e.tail

theorem recVals_length : ∀ (s : List CK) (e : List Cell), (recVals s e).length = s.length
  | [], _ => rfl
  | _ :: s, e => by simp [recVals, recVals_length s]

theorem recVals_get : ∀ (s : List CK) (e : List Cell) (j : Nat) (c : CK), s[j]? = some c → (recVals s e)[j]? = some (c.enc (e.getD j {}))
  | [], _, _, _, h => by simp at h
  | c :: s, e, 0, c', h => by
    simp at h; subst h
    cases e <;> simp [recVals]
  | _ :: s, e, j + 1, c', h => by
    simp at h
    simp only [recVals, List.getElem?_cons_succ]
    rw [recVals_get s e.tail j c' h]
    cases e <;> simp

def RC.w : RC → Nat
  | .recs s _ => s.length
  | _ => 1

def RC.len : RC → Nat
  | .bytes l => l.length
  | .ints _ l => l.length
  | .strs l => l.length
  | .recs _ l => l.length

def byteVal (b : UInt8) : Value := .int .u8 b.toNat

def RC.vals : RC → List Value
  | .bytes l => l.map byteVal
  | .ints k l => l.map (Value.int k)
  | .strs l => l.map Value.string
  | .recs s l => l.flatMap (recVals s)

theorem flatMap_length {α β : Type} (f : α → List β) (n : Nat) (h : ∀ a, (f a).length = n) : ∀ l : List α, (l.flatMap f).length = l.length * n
  | [] => by simp
  | a :: l => by simp [List.flatMap_cons, h, flatMap_length f n h l, Nat.add_mul, Nat.add_comm]

theorem RC.vals_length (rc : RC) : rc.vals.length = rc.len * rc.w := by
  cases rc <;> simp [RC.vals, RC.len, RC.w]
  rename_i s l
  have := flatMap_length (recVals s) s.length (recVals_length s) l
  rw [List.length_flatMap] at this
  exact this

/-- A number of places: written out, or not. -/
inductive AN where
  | l (n : Nat)
  | e (n : Nat)
def AN.v : AN → Nat
  | .l n => n
  | .e n => n
def AN.add : AN → AN → AN
  | .l a, .l b => .l (a + b)
  | a, b => .e (a.v + b.v)
def AN.sub : AN → AN → AN
  | .l a, .l b => .l (a - b)
  | a, b => .e (a.v - b.v)
@[simp] theorem AN.v_l (n : Nat) : (AN.l n).v = n := rfl
@[simp] theorem AN.v_e (n : Nat) : (AN.e n).v = n := rfl
@[simp] theorem AN.v_add (a b : AN) : (a.add b).v = a.v + b.v := by cases a <;> cases b <;> rfl
@[simp] theorem AN.v_sub (a b : AN) : (a.sub b).v = a.v - b.v := by cases a <;> cases b <;> rfl

inductive AV where
  | u
  | n (k : IntKind) (i : Int)
  | i (k : IntKind) (e : Int)
  | b (b : Bool)
  | c (e : Bool)
  | str (s : ByteArray)
  | v (x : Value)
  | p (id off : Nat)
  | pe (id base j : Nat)
  | q (id w : Nat) (idx : AN) (fld : Nat)
  | s (id w : Nat) (lo len : AN)
  | x (rc : RC)
  | xq (rc : RC) (idx : AN) (fld : Nat)
  | f (fn : Fn) (first captured : List AV)
  | a (l : List AV)
  | t (l : List AV)
  | vec (k : IntKind) (n : Nat) (xs : List Int)
  | nx (e : Bool) (pos r : Int)
  | yl (id : Nat)
  | sd (id : Nat) (lo len : AN)
  deriving Inhabited

def AN.av : AN → AV
  | .l n => .n .i64 n
  | .e n => .i .i64 n

structure LKey where
  ps : Array Tmp
  asg : Code
  body : Code

inductive AB where
  | gone
  | cells (ty : Option TypeId) (l : List AV)
  | row (ty : Option TypeId) (rc : RC)
  | it (s : ByteArray) (pos : Nat)
  | lp (st : LoopState) (pend : Option Code) (tms : List AV) (k : LKey)
  | df

def AB.live : AB → Bool
  | .gone => false
  | _ => true

structure RA where
  blk : Nat
  off : Nat
  cap : Nat

abbrev Eta := Nat → Option RA

/-- The world at the beginning, the blocks of it that may turn, the places that keep their names. -/
structure Env where
  w0 : World
  S0 : Nat → Prop
  an : Eta

/-- The cells of 'rc' stand at this place, in memory that came in and that nobody here writes. -/
def ExtAt (E : Env) (blk off : Nat) (rc : RC) : Prop :=
  blk < E.w0.heap.size ∧ ¬ E.S0 blk ∧ ∀ j v, rc.vals[j]? = some v → E.w0.cell? ⟨blk, off + j, none⟩ = some v

def Ext (E : Env) (rc : RC) (v : Value) : Prop :=
  ∃ a c, v = .slice a rc.len c ∧ rc.len ≤ c ∧ (0 < rc.len → ∃ blk off, a = some ⟨blk, off, none⟩ ∧ ExtAt E blk off rc)

mutual
def Mat (E : Env) (η : Eta) : AV → Value → Prop
  | .u, _ => True
  | .n k i, v => v = .int k i
  | .i k i, v => v = .int k i
  | .b b, v => v = .bool b
  | .c b, v => v = .bool b
  | .str s, v => v = .string s
  | .v x, v => v = x
  | .p id off, v => ∃ A, η id = some A ∧ v = .pointer (some ⟨A.blk, A.off + off, none⟩)
  | .pe id base j, v => ∃ A, η id = some A ∧ v = .pointer (some ⟨A.blk, A.off + (base + j), none⟩)
  | .q id w idx fld, v => ∃ A, η id = some A ∧ v = .pointer (some ⟨A.blk, A.off + (idx.v * w + fld), none⟩)
  | .s id w lo len, v => ∃ A a c, η id = some A ∧ len.v ≤ c ∧ lo.v + c ≤ A.cap ∧ v = .slice a len.v c ∧ (0 < c → a = some ⟨A.blk, A.off + lo.v * w, none⟩)
  | .x rc, v => Ext E rc v
  | .xq rc idx fld, v => ∃ blk off, ExtAt E blk off rc ∧ v = .pointer (some ⟨blk, off + (idx.v * rc.w + fld), none⟩)
  | .f fn fs cs, v => ∃ a b, v = .func fn a b ∧ MatL E η fs a.toList ∧ MatL E η cs b.toList
  | .a l, v => ∃ cs, v = .agg cs ∧ MatC E η l cs.toList
  | .t l, v => ∃ vs, v = .tuple vs ∧ MatL E η l vs.toList
  | .vec _ _ _, _ => False
  | .nx e pos r, v => v = if e then .tuple #[.bool true, .int .i64 pos, .int .i32 r] else .tuple #[.bool false]
  | .yl id, v => ∃ A, η id = some A ∧ v = .func (.yield A.blk) #[] #[]
  | .sd id lo len, v => ∃ A p, η id = some A ∧ lo.v + len.v ≤ A.cap ∧ v = .pointer p ∧ (0 < len.v → p = some ⟨A.blk, A.off + lo.v, none⟩)
def MatL (E : Env) (η : Eta) : List AV → List Value → Prop
  | [], vs => vs = []
  | a :: l, vs => ∃ v r, vs = v :: r ∧ Mat E η a v ∧ MatL E η l r
def MatC (E : Env) (η : Eta) : List AV → List Value → Prop
  | [], vs => vs = []
  | .vec k n xs :: l, vs => xs.length = n ∧ ∃ r, vs = xs.map (Value.int k) ++ r ∧ MatC E η l r
  | a :: l, vs => ∃ v r, vs = v :: r ∧ v.oneCell' = true ∧ Mat E η a v ∧ MatC E η l r
end

def free (fr : Nat × Nat) (n : Nat) : Prop := fr.2 ≤ fr.1 ∨ n ≤ fr.1

/-- What is said of a block's type: it is this one, and no cell of it is frozen. -/
def tyOk (ty : Option TypeId) (t : TypeId) (fr : Nat × Nat) : Prop := ∀ t0, ty = some t0 → t = t0 ∧ fr = (0, 0)
theorem tyOk_none {t : TypeId} {fr : Nat × Nat} : tyOk none t fr := fun _ h => (by cases h)
theorem tyOk_some {t : TypeId} : tyOk (some t) t (0, 0) := fun _ h => (by cases h; exact ⟨rfl, rfl⟩)

/-- A place of capacity 0 is none in memory (a nil row). -/
def BlkOk (E : Env) (η : Eta) (w : World) (A : RA) : AB → Prop
  | .gone => True
  | .cells ty l => A.off = 0 ∧ ∃ cs t fr, w.heap[A.blk]? = some (.cells cs t fr) ∧ (free fr cs.size ∧ cs.size ≤ A.cap ∧ 0 < A.cap) ∧ MatC E η l cs.toList ∧ tyOk ty t fr
  | .row ty rc => rc.len ≤ A.cap ∧ (0 < A.cap → ∃ cs t fr, w.heap[A.blk]? = some (.cells cs t fr) ∧ free fr cs.size ∧ A.off + A.cap * rc.w ≤ cs.size ∧
      (∀ j v, rc.vals[j]? = some v → cs[A.off + j]? = some v) ∧ tyOk ty t fr ∧ (ty ≠ none → A.off = 0))
  | .it s pos => A.off = 0 ∧ 0 < A.cap ∧ w.heap[A.blk]? = some (.stringIter s pos)
  | .lp st pend tms k => A.off = 0 ∧ 0 < A.cap ∧ ∃ rec, w.heap[A.blk]? = some (.loop rec) ∧ rec.state = st ∧ rec.pending = pend ∧ rec.params = k.ps ∧ rec.assign = k.asg ∧ rec.body = k.body ∧ MatL E η tms rec.tmps.toList
  | .df => A.off = 0 ∧ 0 < A.cap ∧ w.heap[A.blk]? = some (.deferred (some []))

structure R where
  side : Prop
  val : AV
  upd : List (Nat × AB)
  nxt : Nat

def lookup (l : List (Nat × AB)) (id : Nat) : Option AB :=
  match l with
  | [] => none
  | (j, ab) :: r => if j = id then some ab else lookup r id

def after (H : Nat → AB) (upd : List (Nat × AB)) (id : Nat) : AB := (lookup upd id).getD (H id)

/-- What stands outside the memory has not moved. -/
structure Bg (w w' : World) : Prop where
  os : w'.os = w.os
  tape : w'.tape = w.tape
  output : w'.output = w.output
theorem Bg.refl (w : World) : Bg w w := ⟨rfl, rfl, rfl⟩
theorem Bg.trans {a b c : World} (h : Bg a b) (k : Bg b c) : Bg a c := ⟨k.os.trans h.os, k.tape.trans h.tape, k.output.trans h.output⟩

/-- The heap of a state: what is live lies where it should, apart from all else; what came in, and isn't ours, is as it was. -/
structure Heap (E : Env) (η : Eta) (H : Nat → AB) (D : Nat → Prop) (w : World) : Prop where
  hp : ∀ id, (H id).live = true → ∃ A, η id = some A ∧ BlkOk E η w A (H id) ∧ (0 < A.cap → A.blk < w.heap.size ∧ (E.w0.heap.size ≤ A.blk ∨ E.S0 A.blk))
  ds : ∀ id id' A A', id ≠ id' → (H id).live = true → (H id').live = true → η id = some A → η id' = some A' → 0 < A.cap → 0 < A'.cap → A.blk ≠ A'.blk
  fr : ∀ b, b < E.w0.heap.size → ¬ E.S0 b → w.heap[b]? = E.w0.heap[b]?
  sz : E.w0.heap.size ≤ w.heap.size
  dm : ∀ id A, η id = some A → D id
  bg : Bg E.w0 w
  an : ∀ id A, E.an id = some A → η id = some A

/-- What an operation, or a call, has done: the new numbering, the value, the blocks that it touched; all else is as it was. -/
structure Concl (E : Env) (η η' : Eta) (H : Nat → AB) (w w' : World) (fid : Nat) (r : R) (v : Value) : Prop where
  ext : ∀ id A, η id = some A → η' id = some A
  dom : ∀ id A, η' id = some A → η id = none → fid ≤ id ∧ id < r.nxt
  val : Mat E η' r.val v
  upd : ∀ id ab, lookup r.upd id = some ab → ab.live = true → ∃ A, η' id = some A ∧ BlkOk E η' w' A ab ∧ (0 < A.cap → A.blk < w'.heap.size ∧
    (w.heap.size ≤ A.blk ∨ ∃ id0 A0, η id0 = some A0 ∧ 0 < A0.cap ∧ A0.blk = A.blk ∧ (H id0).live = true ∧ ∃ ab0, lookup r.upd id0 = some ab0))
  dst : ∀ id id' ab ab' A A', id ≠ id' → lookup r.upd id = some ab → lookup r.upd id' = some ab' → ab.live = true → ab'.live = true → η' id = some A → η' id' = some A' → 0 < A.cap → 0 < A'.cap → A.blk ≠ A'.blk
  frm : ∀ b, b < w.heap.size → (∀ id A ab, lookup r.upd id = some ab → (H id).live = true → η id = some A → 0 < A.cap → A.blk ≠ b) → w'.heap[b]? = w.heap[b]?
  sz : w.heap.size ≤ w'.heap.size
  bg : Bg w w'

section
variable {E : Env} {η η' : Eta}

mutual
theorem Mat.mono (h : ∀ id A, η id = some A → η' id = some A) : ∀ {a : AV} {v : Value}, Mat E η a v → Mat E η' a v
  | .u, _, _ => by simp [Mat]
  | .n .., _, m => by simpa [Mat] using m
  | .i .., _, m => by simpa [Mat] using m
  | .b .., _, m => by simpa [Mat] using m
  | .c .., _, m => by simpa [Mat] using m
  | .str .., _, m => by simpa [Mat] using m
  | .v .., _, m => by simpa [Mat] using m
  | .p .., _, m => by simp only [Mat] at m ⊢; obtain ⟨A, h1, h2⟩ := m; exact ⟨A, h _ _ h1, h2⟩
  | .pe .., _, m => by simp only [Mat] at m ⊢; obtain ⟨A, h1, h2⟩ := m; exact ⟨A, h _ _ h1, h2⟩
  | .q .., _, m => by simp only [Mat] at m ⊢; obtain ⟨A, h1, h2⟩ := m; exact ⟨A, h _ _ h1, h2⟩
  | .s .., _, m => by simp only [Mat] at m ⊢; obtain ⟨A, a, c, h1, h2⟩ := m; exact ⟨A, a, c, h _ _ h1, h2⟩
  | .x .., _, m => by simpa [Mat] using m
  | .xq .., _, m => by simpa [Mat] using m
  | .f _ fs cs, _, m => by
    simp only [Mat] at m ⊢
    obtain ⟨a, b, h1, h2, h3⟩ := m
    exact ⟨a, b, h1, MatL.mono h h2, MatL.mono h h3⟩
  | .a l, _, m => by
    simp only [Mat] at m ⊢
    obtain ⟨cs, h1, h2⟩ := m
    exact ⟨cs, h1, MatC.mono h h2⟩
  | .t l, _, m => by
    simp only [Mat] at m ⊢
    obtain ⟨cs, h1, h2⟩ := m
    exact ⟨cs, h1, MatL.mono h h2⟩
  | .vec .., _, m => by simp [Mat] at m
  | .nx .., _, m => by simpa [Mat] using m
  | .yl .., _, m => by simp only [Mat] at m ⊢; obtain ⟨A, h1, h2⟩ := m; exact ⟨A, h _ _ h1, h2⟩
  | .sd .., _, m => by simp only [Mat] at m ⊢; obtain ⟨A, p, h1, h2⟩ := m; exact ⟨A, p, h _ _ h1, h2⟩
theorem MatL.mono (h : ∀ id A, η id = some A → η' id = some A) : ∀ {l : List AV} {vs : List Value}, MatL E η l vs → MatL E η' l vs
  | [], _, m => by simpa [MatL] using m
  | a :: l, _, m => by
    simp only [MatL] at m ⊢
    obtain ⟨v, r, h1, h2, h3⟩ := m
    exact ⟨v, r, h1, Mat.mono h h2, MatL.mono h h3⟩
theorem MatC.mono (h : ∀ id A, η id = some A → η' id = some A) : ∀ {l : List AV} {vs : List Value}, MatC E η l vs → MatC E η' l vs
  | [], _, m => by simpa [MatC] using m
  | a :: l, _, m => by
    cases a
    case vec k n xs =>
      simp only [MatC] at m ⊢
      obtain ⟨h1, r, h2, h3⟩ := m
      exact ⟨h1, r, h2, MatC.mono h h3⟩
    all_goals
      simp only [MatC] at m ⊢
      obtain ⟨v, r, h1, h2, h3, h4⟩ := m
      exact ⟨v, r, h1, h2, Mat.mono h h3, MatC.mono h h4⟩
end

theorem BlkOk.mono (h : ∀ id A, η id = some A → η' id = some A) {w : World} {A : RA} {ab : AB} (m : BlkOk E η w A ab) : BlkOk E η' w A ab := by
  cases ab <;> simp only [BlkOk] at m ⊢
  case cells ty l =>
    obtain ⟨h0, cs, t, fr, h1, h2, h3, h4⟩ := m
    exact ⟨h0, cs, t, fr, h1, h2, MatC.mono h h3, h4⟩
  case lp st pend tms k =>
    obtain ⟨h0, h1, rec, h2, h3, h4, h5, h6, h7, h8⟩ := m
    exact ⟨h0, h1, rec, h2, h3, h4, h5, h6, h7, MatL.mono h h8⟩
  all_goals exact m

theorem BlkOk.same {w w' : World} {A : RA} {ab : AB} (h : 0 < A.cap → w'.heap[A.blk]? = w.heap[A.blk]?) (m : BlkOk E η w A ab) : BlkOk E η w' A ab := by
  cases ab <;> simp only [BlkOk] at m ⊢
  case cells ty l =>
    obtain ⟨h0, cs, t, fr, h1, h2, h3⟩ := m
    exact ⟨h0, cs, t, fr, by rw [h h2.2.2]; exact h1, h2, h3⟩
  case row ty rc =>
    refine ⟨m.1, fun hc => ?_⟩
    rw [h hc]; exact m.2 hc
  case it s pos => exact ⟨m.1, m.2.1, by rw [h m.2.1]; exact m.2.2⟩
  case lp st pend tms k => exact ⟨m.1, m.2.1, by rw [h m.2.1]; exact m.2.2⟩
  case df => exact ⟨m.1, m.2.1, by rw [h m.2.1]; exact m.2.2⟩

theorem Heap.step {H : Nat → AB} {D D' : Nat → Prop} {w w' : World} {fid : Nat} {r : R} {v : Value} (hH : Heap E η H D w) (hc : Concl E η η' H w w' fid r v)
    (hD : ∀ id, D id → D' id) (hN : ∀ id, fid ≤ id → id < r.nxt → D' id) : Heap E η' (after H r.upd) D' w' := by
  have out : ∀ id A, lookup r.upd id = none → (H id).live = true → η id = some A → 0 < A.cap → w'.heap[A.blk]? = w.heap[A.blk]? := by
    intro id A hn hl hA hcap
    obtain ⟨A', hA', _, hlt⟩ := hH.hp id hl
    rw [hA] at hA'; cases hA'
    refine hc.frm A.blk (hlt hcap).1 fun id' A' ab hu hl' he hcap' => ?_
    have hne : id' ≠ id := by rintro rfl; rw [hn] at hu; cases hu
    exact hH.ds id' id A' A hne hl' hl he hA hcap' hcap
  have old : ∀ id, (H id).live = true → ∃ A, η id = some A := fun id h => let ⟨A, h1, _⟩ := hH.hp id h; ⟨A, h1⟩
  refine ⟨?_, ?_, ?_, Nat.le_trans hH.sz hc.sz, ?_, hH.bg.trans hc.bg, fun id A h => hc.ext _ _ (hH.an _ _ h)⟩
  · intro id hl
    cases hu : lookup r.upd id with
    | none =>
      simp only [after, hu, Option.getD_none] at hl ⊢
      obtain ⟨A, h1, h2, h3⟩ := hH.hp id hl
      exact ⟨A, hc.ext _ _ h1, (h2.mono hc.ext).same (out id A hu hl h1), fun hcap => ⟨Nat.lt_of_lt_of_le (h3 hcap).1 hc.sz, (h3 hcap).2⟩⟩
    | some ab =>
      simp only [after, hu, Option.getD_some] at hl ⊢
      obtain ⟨A, h1, h2, h3⟩ := hc.upd id ab hu hl
      refine ⟨A, h1, h2, fun hcap => ⟨(h3 hcap).1, ?_⟩⟩
      rcases (h3 hcap).2 with h4 | ⟨id0, A0, e0, c0, eb, l0, _⟩
      · exact .inl (Nat.le_trans hH.sz h4)
      · obtain ⟨A1, e1, _, h5⟩ := hH.hp id0 l0
        rw [e0] at e1; cases e1
        rw [← eb]; exact (h5 c0).2
  · intro id id' A A' hne hl hl' hA hA' hcA hcA'
    have cross : ∀ id id' A A', id ≠ id' → (∃ ab, lookup r.upd id = some ab ∧ ab.live = true) → lookup r.upd id' = none → (H id').live = true → η' id = some A → η' id' = some A' → 0 < A.cap → 0 < A'.cap → A.blk ≠ A'.blk := by
      rintro id id' A A' hne ⟨ab, hu, hl⟩ hu' hl' hA hA' hcA hcA'
      obtain ⟨B, h1, _, h4⟩ := hc.upd id ab hu hl
      rw [hA] at h1; cases h1
      obtain ⟨B', h1', _, hlt⟩ := hH.hp id' hl'
      have := hc.ext _ _ h1'
      rw [hA'] at this; cases this
      have hlt := (hlt hcA').1
      rcases (h4 hcA).2 with h4 | ⟨id0, A0, e0, c0, eb, l0, ab0, hu0⟩
      · omega
      · rw [← eb]
        have : id0 ≠ id' := by rintro rfl; rw [hu'] at hu0; cases hu0
        exact hH.ds id0 id' A0 A' this l0 hl' e0 h1' c0 hcA'
    cases hu : lookup r.upd id with
    | none =>
      simp only [after, hu, Option.getD_none] at hl
      cases hu' : lookup r.upd id' with
      | none =>
        simp only [after, hu', Option.getD_none] at hl'
        obtain ⟨B, hB⟩ := old id hl
        obtain ⟨B', hB'⟩ := old id' hl'
        have e1 := hc.ext _ _ hB
        have e2 := hc.ext _ _ hB'
        rw [hA] at e1; rw [hA'] at e2; cases e1; cases e2
        exact hH.ds id id' A A' hne hl hl' hB hB' hcA hcA'
      | some ab' =>
        simp only [after, hu', Option.getD_some] at hl'
        exact (cross id' id A' A (Ne.symm hne) ⟨ab', hu', hl'⟩ hu hl hA' hA hcA' hcA).symm
    | some ab =>
      simp only [after, hu, Option.getD_some] at hl
      cases hu' : lookup r.upd id' with
      | none =>
        simp only [after, hu', Option.getD_none] at hl'
        exact cross id id' A A' hne ⟨ab, hu, hl⟩ hu' hl' hA hA' hcA hcA'
      | some ab' =>
        simp only [after, hu', Option.getD_some] at hl'
        exact hc.dst id id' ab ab' A A' hne hu hu' hl hl' hA hA' hcA hcA'
  · intro b hb hS
    rw [hc.frm b (Nat.lt_of_lt_of_le hb hH.sz) ?_, hH.fr b hb hS]
    intro id A ab hu hl hA hcap e
    obtain ⟨A', h1, _, h4⟩ := hH.hp id hl
    rw [hA] at h1; cases h1
    have h4 := (h4 hcap).2
    rw [e] at h4
    rcases h4 with h4 | h4
    · omega
    · exact hS h4
  · intro id A hA
    cases he : η id with
    | none => have := hc.dom id A hA he; exact hN id this.1 this.2
    | some B => exact hD id (hH.dm id B he)
end
end Go.Proofs.YtkihnmpjpbfiaaaDoor.Ev
