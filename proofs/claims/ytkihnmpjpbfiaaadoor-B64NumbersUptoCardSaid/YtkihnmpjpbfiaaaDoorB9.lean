/- What groups hands on, as a list; the contract of a round that writes into a Builder. -/
import Derived.Test.YtkihnmpjpbfiaaaDoorB8
set_option linter.unusedVariables false
set_option linter.unusedSimpArgs false
namespace Go.Proofs.YtkihnmpjpbfiaaaDoor.Mine
open Go Go.Proofs.YtkihnmpjpbfiaaaDoor.Ev Go.Proofs
set_option maxRecDepth 100000

/-! ### What groups hands on -/
def outs (to n : Nat) : Nat → Nat → List Nat
  | 0, _ => []
  | k + 1, h => if to ≤ h then (n / 2 ^ (h - to)) % 2 ^ to :: outs to n k (h - to) else []
theorem outs_fuel {to n : Nat} (ht : 0 < to) : ∀ k k' h, h ≤ k → h ≤ k' → outs to n k h = outs to n k' h := by
  intro k
  induction k with
  | zero =>
    intro k' h hk _
    have e : h = 0 := by omega
    subst e
    cases k' with
    | zero => rfl
    | succ k' => simp [outs]; omega
  | succ k ih =>
    intro k' h hk hk'
    cases k' with
    | zero =>
      have e : h = 0 := by omega
      subst e
      simp [outs]; omega
    | succ k' =>
      simp only [outs]
      split
      · rw [ih k' (h - to) (by omega) (by omega)]
      · rfl
def grp (fr to : Nat) : List UInt8 → Nat → Nat → List Nat
  | [], n, h => if 0 < h then [n * 2 ^ (to - h) % 2 ^ to] else []
  | b :: r, n, h => outs to (n * 2 ^ fr + b.toNat) (h + fr) (h + fr) ++ grp fr to r ((n * 2 ^ fr + b.toNat) % 2 ^ ((h + fr) % to)) ((h + fr) % to)
/-- Within a byte: what is still to come. -/
def grest (fr to : Nat) (tl : List UInt8) (n h : Nat) : List Nat := outs to n h h ++ grp fr to tl (n % 2 ^ (h % to)) (h % to)
theorem grest_step {fr to : Nat} {tl : List UInt8} {n h : Nat} (ht : 0 < to) (hh : to ≤ h) : grest fr to tl n h = (n / 2 ^ (h - to)) % 2 ^ to :: grest fr to tl n (h - to) := by
  unfold grest
  rw [Nat.mod_eq_sub_mod hh]
  cases h with
  | zero => omega
  | succ h =>
    simp only [outs]
    rw [if_pos hh, outs_fuel ht h (h + 1 - to) (h + 1 - to) (by omega) (Nat.le_refl _)]
    rfl
theorem grest_exit {fr to : Nat} {tl : List UInt8} {n h : Nat} (hh : h < to) : grest fr to tl n h = grp fr to tl (n % 2 ^ h) h := by
  unfold grest
  rw [Nat.mod_eq_of_lt hh]
  cases h with
  | zero => rfl
  | succ h => simp only [outs]; rw [if_neg (by omega)]; rfl
theorem grp_cons {fr to : Nat} {b : UInt8} {r : List UInt8} {n h : Nat} : grp fr to (b :: r) n h = grest fr to r (n * 2 ^ fr + b.toNat) (h + fr) := rfl

def tbAt (tb : ByteArray) (n : Nat) : UInt8 := tb.data.toList.getD n 0
def encL (to : Nat) (tb : ByteArray) (l : List UInt8) : List UInt8 := (grp 8 to l 0 0).map (tbAt tb)

/-- The round of a loop over groups that writes a table's letters into a Builder. -/
def rdNil (key : LKey) (nt : Nat) (tb : ByteArray) : FSpec := { foot := fun _ fid => List.range fid, run := fun av H fid => match av with
  | [.yl id, a] => match avInt? a with
    | some (.i64, n) => match H id with
      | .lp .ready none tms k => if tms.length = nt then match tms.getD 3 .u with
        | .p b 0 => if id ≠ b then match H b with
          | .cells (some 36) [.v (.pointer none), .v (.slice none 0 0)] => some (outR (k = key ∧ 0 ≤ n ∧ n < tb.size) (.b true) [.lp .ready none (only nt 3 (.p 1 0)) key, .cells (some 36) [.p 1 0, .s 2 1 (.l 0) (.e 1)], .row (some 5) (.bytes [tbAt tb n.toNat])] [id, b] fid)
          | _ => none
          else none
        | _ => none
        else none
      | _ => none
    | _ => none
  | _ => none }
def rdRow (key : LKey) (nt : Nat) (tb : ByteArray) : FSpec := { foot := fun _ fid => List.range fid, run := fun av H fid => match av with
  | [.yl id, a] => match avInt? a with
    | some (.i64, n) => match H id with
      | .lp .ready none tms k => if tms.length = nt then match tms.getD 3 .u with
        | .p b 0 => if id ≠ b then match H b with
          | .cells (some 36) [.p b' 0, .s id2 1 (.l 0) (.e m)] => if b' = b ∧ id ≠ id2 ∧ b ≠ id2 then match H id2 with
            | .row (some 5) (.bytes l) => some (outR (k = key ∧ m = l.length ∧ l.length + 1 ≤ okN ∧ 0 ≤ n ∧ n < tb.size) (.b true) [.lp .ready none (only nt 3 (.p 1 0)) key, .cells (some 36) [.p 1 0, .s 3 1 (.l 0) (.e (l.length + 1))], .gone, .row (some 5) (.bytes (l ++ [tbAt tb n.toNat]))] [id, b, id2] fid)
            | _ => none
            else none
          | _ => none
          else none
        | _ => none
        else none
      | _ => none
    | _ => none
  | _ => none }
def rdSpec (key : LKey) (nt : Nat) (tb : ByteArray) : FSpec := orSpec (rdNil key nt tb) (rdRow key nt tb)
theorem yor_ok {P : Program} {s t : FSpec} (h1 : YieldOk P s) (h2 : YieldOk P t) (hf : s.foot = t.foot) : YieldOk P (orSpec s t) := by
  intro E η H D w fid id A avs args r hA m hH h hN hs
  simp only [orSpec] at h
  split at h
  · rename_i r' hr
    cases h
    exact h1 E η H D w fid id A avs args r hA m hH hr hN hs
  · rw [hf] at h
    exact h2 E η H D w fid id A avs args r hA m hH h hN hs

theorem renL_set {f : Nat → Nat} : ∀ (l : List AV) (i : Nat) (a : AV), renL f (l.set i a) = (renL f l).set i (a.ren f)
  | [], _, _ => rfl
  | _ :: _, 0, _ => rfl
  | x :: l, i + 1, a => by simp only [List.set_cons_succ, renL, renL_set l i a]
theorem renL_rep {f : Nat → Nat} : ∀ n : Nat, renL f (List.replicate n .u) = List.replicate n .u
  | 0 => rfl
  | n + 1 => by rw [List.replicate_succ, renL, renL_rep n]; rfl
theorem ren_only {f : Nat → Nat} (n i : Nat) (a : AV) : renL f (only n i a) = only n i (a.ren f) := by
  unfold only; rw [renL_set, renL_rep]
theorem fitL_set {x : Bool} {n : Nat} : ∀ {l : List AV} {i : Nat} {a : AV}, fitL x n l = true → a.fit x n = true → fitL x n (l.set i a) = true
  | [], _, _, h, _ => h
  | b :: l, 0, a, h, h' => by simp only [List.set_cons_zero, fitL, Bool.and_eq_true] at h ⊢; exact ⟨h', h.2⟩
  | b :: l, i + 1, a, h, h' => by simp only [List.set_cons_succ, fitL, Bool.and_eq_true] at h ⊢; exact ⟨h.1, fitL_set h.2 h'⟩
theorem fitL_rep {x : Bool} {n : Nat} : ∀ k : Nat, fitL x n (List.replicate k .u) = true
  | 0 => rfl
  | k + 1 => by rw [List.replicate_succ, fitL, fitL_rep k]; rfl
theorem fit_only {x : Bool} {n k i : Nat} {a : AV} (h : a.fit x n = true) : fitL x n (only k i a) = true := fitL_set (fitL_rep k) h

theorem rdNil_contr {key : LKey} {nt : Nat} {tb : ByteArray} (hk : key.ps.size = 1) : RContr 2 key (rdNil key nt tb) (fun _ : Int => only nt 3 (.p 1 0)) (fun n => [.i .i64 n]) (fun _ => .lp .ready none (only nt 3 (.p 1 0)) key :: [.cells (some 36) [.v (.pointer none), .v (.slice none 0 0)]])
    (fun n => 0 ≤ n ∧ n < tb.size) (fun _ => .b true) (fun n => [.lp .ready none (only nt 3 (.p 1 0)) key, .cells (some 36) [.p 1 0, .s 2 1 (.l 0) (.e 1)], .row (some 5) (.bytes [tbAt tb n.toNat])]) where
  run := fun id avs H fid r h => by
    simp only [rdNil] at h
    split at h
    case h_2 => cases h
    rename_i id' a e
    cases e
    split at h
    case h_2 => cases h
    rename_i n hn
    split at h
    case h_2 => cases h
    rename_i tms k hlp
    split at h
    case isFalse => cases h
    rename_i hlen
    split at h
    case h_2 => cases h
    rename_i b hb
    split at h
    case isFalse => cases h
    rename_i hne
    split at h
    case h_2 => cases h
    rename_i hc
    cases h
    refine ⟨n, [id, b], _, rfl, by decide, rfl, by simp [hne], rfl, fun hs => ⟨hs.2, ⟨argOk_int hn, trivial⟩, rfl, fun j hj => ?_⟩⟩
    have : j = 0 ∨ j = 1 := by simp at hj; omega
    rcases this with rfl | rfl
    · refine ⟨?_, rfl⟩
      show (H id).wk (.lp .ready none (renL _ (only nt 3 (.p 1 0))) key)
      rw [within_eq hlp rfl, ren_only]
      exact ⟨rfl, rfl, hs.1, wkL_only hlen hb⟩
    · refine ⟨?_, rfl⟩
      show (H b).wk _
      exact AB.wk_eq (within_eq hc rfl)
  fitA := fun x => ⟨by simp [hk], rfl, rfl, fun j hj => by
    have : j = 0 ∨ j = 1 := by omega
    rcases this with rfl | rfl
    · exact fit_only rfl
    · rfl⟩
  fitR := fun x => ⟨(by decide : 2 ≤ 3), rfl, fun j hj => by
    have : j = 0 ∨ j = 1 ∨ j = 2 := by simp at hj; omega
    rcases this with rfl | rfl | rfl
    · exact fit_only rfl
    · rfl
    · rfl⟩

theorem rdRow_contr {key : LKey} {nt : Nat} {tb : ByteArray} (hk : key.ps.size = 1) : RContr 3 key (rdRow key nt tb) (fun _ : Int × List UInt8 × Nat => only nt 3 (.p 1 0)) (fun x => [.i .i64 x.1]) (fun x => .lp .ready none (only nt 3 (.p 1 0)) key :: [.cells (some 36) [.p 1 0, .s 2 1 (.l 0) (.e x.2.2)], .row (some 5) (.bytes x.2.1)])
    (fun x => x.2.2 = x.2.1.length ∧ x.2.1.length + 1 ≤ okN ∧ 0 ≤ x.1 ∧ x.1 < tb.size) (fun _ => .b true) (fun x => [.lp .ready none (only nt 3 (.p 1 0)) key, .cells (some 36) [.p 1 0, .s 3 1 (.l 0) (.e (x.2.1.length + 1))], .gone, .row (some 5) (.bytes (x.2.1 ++ [tbAt tb x.1.toNat]))]) where
  run := fun id avs H fid r h => by
    simp only [rdRow] at h
    split at h
    case h_2 => cases h
    rename_i id' a e
    cases e
    split at h
    case h_2 => cases h
    rename_i n hn
    split at h
    case h_2 => cases h
    rename_i tms k hlp
    split at h
    case isFalse => cases h
    rename_i hlen
    split at h
    case h_2 => cases h
    rename_i b hb
    split at h
    case isFalse => cases h
    rename_i hne
    split at h
    case h_2 => cases h
    rename_i b' id2 m hc
    split at h
    case isFalse => cases h
    rename_i hid
    obtain ⟨rfl, hn1, hn2⟩ := hid
    split at h
    case h_2 => cases h
    rename_i l hl
    cases h
    refine ⟨(n, l, m), [id, b', id2], _, rfl, by decide, rfl, by simp [hne, hn1, hn2], rfl, fun hs => ⟨hs.2, ⟨argOk_int hn, trivial⟩, rfl, fun j hj => ?_⟩⟩
    have : j = 0 ∨ j = 1 ∨ j = 2 := by simp at hj; omega
    rcases this with rfl | rfl | rfl
    · refine ⟨?_, rfl⟩
      show (H id).wk (.lp .ready none (renL _ (only nt 3 (.p 1 0))) key)
      rw [within_eq hlp rfl, ren_only]
      exact ⟨rfl, rfl, hs.1, wkL_only hlen hb⟩
    · refine ⟨?_, rfl⟩
      show (H b').wk _
      exact AB.wk_eq (within_eq hc rfl)
    · refine ⟨?_, rfl⟩
      show (H id2).wk _
      exact AB.wk_eq (within_eq hl rfl)
  fitA := fun x => ⟨by simp [hk], rfl, rfl, fun j hj => by
    have : j = 0 ∨ j = 1 ∨ j = 2 := by omega
    rcases this with rfl | rfl | rfl
    · exact fit_only rfl
    · rfl
    · rfl⟩
  fitR := fun x => ⟨(by decide : 3 ≤ 4), rfl, fun j hj => by
    have : j = 0 ∨ j = 1 ∨ j = 2 ∨ j = 3 := by simp at hj; omega
    rcases this with rfl | rfl | rfl | rfl
    · exact fit_only rfl
    · rfl
    · rfl
    · rfl⟩

/-- The loops over functions in a code. -/
def keysOf : Code → List LKey
  | .seq a b => keysOf a ++ keysOf b
  | .cond _ a b => keysOf a ++ keysOf b
  | .block _ b => keysOf b
  | .loop b => keysOf b
  | .scope b => keysOf b
  | .rangeFunc _ ps asg body => [⟨ps, asg, body⟩]
  | _ => []
def keyOf (f : Func) : LKey := (keysOf (bodyOf f)).headD ⟨#[], .skip, .skip⟩
def l23 : List (FuncId × FSpec) := [(23, wbSpec)]
theorem l23_ok : AllOk Tryd.prog l23 := ⟨⟨by decide, fok wb_ok Tryd.func23 rfl (by kernel_rfl)⟩, trivial⟩
noncomputable def CR (na : Nat) : Ctx := { na := na, top := false, P := Tryd.prog, sp := spOf l23, nm := false }

/-! ### Numbers of the machine, as numbers -/
theorem bvn {a : Nat} (h : a < 2 ^ 63) : (BitVec.ofInt 64 (a : Int)).toNat = a := by
  rw [BitVec.toNat_ofInt]; omega
theorem wrapN {a : Nat} (h : a < 2 ^ 63) : IntKind.wrap .i64 (a : Int) = a := wrap64 (by omega) (by omega)
theorem and_mask {a t : Nat} (h : a < 2 ^ 63) (ht : t ≤ 62) : IntKind.wrap .i64 ((BitVec.ofInt 64 (a : Int) &&& BitVec.ofInt 64 ((2 ^ t - 1 : Nat) : Int)).toNat : Int) = ((a % 2 ^ t : Nat) : Int) := by
  have h2 : 2 ^ t ≤ 2 ^ 62 := Nat.pow_le_pow_right (by decide) ht
  have h3 : 0 < 2 ^ t := Nat.pow_pos (by decide)
  have h4 : a % 2 ^ t < 2 ^ t := Nat.mod_lt _ h3
  rw [BitVec.toNat_and, bvn h, bvn (by omega), Nat.and_two_pow_sub_one_eq_mod, wrapN (by omega)]
theorem or_low {a b k : Nat} (hb : b < 2 ^ k) (h : a * 2 ^ k + b < 2 ^ 63) : IntKind.wrap .i64 ((BitVec.ofInt 64 ((a * 2 ^ k : Nat) : Int) ||| BitVec.ofInt 64 (b : Int)).toNat : Int) = ((a * 2 ^ k + b : Nat) : Int) := by
  rw [BitVec.toNat_or, bvn (by omega), bvn (by omega), Nat.mul_comm, ← Nat.two_pow_add_eq_or_of_lt hb, wrapN (by rw [Nat.mul_comm]; exact h)]
theorem fd (n m : Nat) : ((n : Int)).fdiv (m : Int) = ((n / m : Nat) : Int) := by
  rw [Int.fdiv_eq_ediv_of_nonneg _ (by omega), Int.natCast_ediv]
theorem shr_n {n h : Nat} (hh : h ≤ 64) : ((n : Int)).fdiv (2 ^ min ((h : Nat) : Int).toNat 64) = ((n / 2 ^ h : Nat) : Int) := by
  rw [Int.toNat_natCast, Nat.min_eq_left hh]
  have : ((2 : Int) ^ h) = ((2 ^ h : Nat) : Int) := by simp
  rw [this, fd]

/-! ### The places of a walk through groups -/
structure GI where
  h : Nat
  n : Nat
  i : Nat
inductive ORel (to : Nat) (tb s : ByteArray) : Unit ⊕ (GI × List UInt8) → Prop where
  | a : ORel to tb s (.inl ())
  | b (y : GI × List UInt8) (h1 : y.1.h < to) (h2 : y.1.n < 2 ^ y.1.h) (h3 : y.1.i ≤ s.size) (h4 : y.2 ++ (grp 8 to (s.data.toList.drop y.1.i) y.1.n y.1.h).map (tbAt tb) = encL to tb s.data.toList) : ORel to tb s (.inr y)
structure IR (to : Nat) (tb s : ByteArray) (n h i : Nat) (l : List UInt8) : Prop where
  h1 : h < to + 8
  h2 : n < 2 ^ (to + 8)
  h3 : i < s.size
  h4 : l ++ (grest 8 to (s.data.toList.drop (i + 1)) n h).map (tbAt tb) = encL to tb s.data.toList
inductive IRel (to : Nat) (tb s : ByteArray) : Nat ⊕ (GI × List UInt8) → Nat ⊕ (GI × List UInt8) → Prop where
  | aa (n : Nat) (h : IR to tb s n 8 0 []) : IRel to tb s (.inl n) (.inl n)
  | ab (n h : Nat) (l : List UInt8) (hr : IR to tb s n h 0 l) : IRel to tb s (.inl n) (.inr (⟨h, n, 0⟩, l))
  | bb (y : GI × List UInt8) (h : Nat) (l : List UInt8) (hr : IR to tb s y.1.n h y.1.i l) : IRel to tb s (.inr y) (.inr (⟨h, y.1.n, y.1.i⟩, l))

theorem byte_at {s : ByteArray} {i : Nat} (h : i < s.size) : ∃ b, s.data.toList[i]? = some b ∧ s.data.toList.drop i = b :: s.data.toList.drop (i + 1) := by
  have hl : i < s.data.toList.length := by rw [size_eq]; exact h
  exact ⟨_, List.getElem?_eq_getElem hl, List.drop_eq_getElem_cons hl⟩

theorem ir_step {to : Nat} {tb s : ByteArray} {n h i : Nat} {l : List UInt8} (ht : 0 < to) (ht8 : to ≤ 8) (hr : IR to tb s n h i l) (hh : to ≤ h) :
    IR to tb s n (h - to) i (l ++ [tbAt tb (n / 2 ^ (h - to) % 2 ^ to)]) ∧ l.length + 1 ≤ (encL to tb s.data.toList).length := by
  have e := hr.h4
  rw [grest_step ht hh] at e
  refine ⟨⟨by have := hr.h1; omega, hr.h2, hr.h3, ?_⟩, ?_⟩
  · rw [← e]; simp
  · rw [← e]; simp
theorem ir_exit {to : Nat} {tb s : ByteArray} {n h i : Nat} {l : List UInt8} (hr : IR to tb s n h i l) (hh : h < to) : ORel to tb s (.inr (⟨h, n % 2 ^ h, i + 1⟩, l)) := by
  refine .b _ hh (Nat.mod_lt _ (Nat.pow_pos (by decide))) hr.h3 ?_
  have e := hr.h4
  rw [grest_exit hh] at e
  exact e
theorem ir_start {to : Nat} {tb s : ByteArray} {n h i : Nat} {l : List UInt8} {b : UInt8} (hto : to ≤ 8) (h1 : h < to) (h2 : n < 2 ^ h) (h3 : i < s.size) (hb : s.data.toList.drop i = b :: s.data.toList.drop (i + 1))
    (h4 : l ++ (grp 8 to (s.data.toList.drop i) n h).map (tbAt tb) = encL to tb s.data.toList) : IR to tb s (n * 2 ^ 8 + b.toNat) (h + 8) i l := by
  refine ⟨by omega, ?_, h3, ?_⟩
  · have : n + 1 ≤ 2 ^ h := h2
    have : (n + 1) * 2 ^ 8 ≤ 2 ^ h * 2 ^ 8 := Nat.mul_le_mul_right _ this
    rw [← Nat.pow_add] at this
    have : 2 ^ (h + 8) ≤ 2 ^ (to + 8) := Nat.pow_le_pow_right (by decide) (by omega)
    have := b.toNat_lt
    omega
  · rw [hb, grp_cons] at h4
    exact h4

end Go.Proofs.YtkihnmpjpbfiaaaDoor.Mine
