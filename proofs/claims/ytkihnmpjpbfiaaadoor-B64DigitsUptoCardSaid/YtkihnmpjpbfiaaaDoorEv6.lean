/- What an operation does, by its abstract account: tests and numbers; slices; conversions. -/
import Derived.Test.YtkihnmpjpbfiaaaDoorEv5
import Derived.Lib.Builder
import Derived.Lib.UnsafeStr
set_option linter.unusedVariables false
set_option linter.unusedSimpArgs false
namespace Go.Proofs.YtkihnmpjpbfiaaaDoor.Ev
open Go

section
variable {P : Program} {E : Env} {η : Eta} {H : Nat → AB} {D : Nat → Prop} {w : World} {fid : Nat}

/-- The operation ends in this value and this state. -/
def Ends (P : Program) (E : Env) (η : Eta) (H : Nat → AB) (w : World) (fid : Nat) (r : R) (s : Sem Value) : Prop :=
  ∃ v w' η', s.run P w = .ok v w' ∧ Concl E η η' H w w' fid r v

theorem ends_pure {s : Sem Value} {v : Value} {av : AV} {p : Prop} (h : s.run P w = .ok v w) (m : Mat E η av v) : Ends P E η H w fid ⟨p, av, [], fid⟩ s :=
  ⟨v, w, η, h, .pure m rfl⟩

theorem intBin_ok {op : BinOp} {k : IntKind} {a b r : Int} {t : TypeId} (h : intBin op k a b = some r) : (binOp op t (.int k a) (.int k b)).run P w = .ok (.int k r) w := by
  unfold intBin at h
  cases op <;> simp only at h <;> first | (cases h; done) | (cases h; simp [binOp, Op.intArith, Op.intBits])
theorem cmpBin_ok {op : BinOp} {k : IntKind} {a b : Int} {r : Bool} {t : TypeId} (h : cmpBin op a b = some r) : (binOp op t (.int k a) (.int k b)).run P w = .ok (.bool r) w := by
  unfold cmpBin at h
  cases op <;> simp only at h <;> first | (cases h; done) | (cases h; simp [binOp, Op.intCmp])
theorem strBin_ok {op : BinOp} {a b : ByteArray} {r : Bool} {t : TypeId} (h : strBin op a b = some r) : (binOp op t (.string a) (.string b)).run P w = .ok (.bool r) w := by
  unfold strBin at h
  cases op <;> simp only at h <;> first | (cases h; done) | (cases h; simp [binOp, Op.stringOp])

theorem guard_int {op : BinOp} {t : TypeId} {x y : Operand} {k k' : IntKind} {a b : Int} : (eqGuard op t x y (.int k a) (.int k' b)).run P w = .ok () w := by cases op <;> rfl
theorem guard_str {op : BinOp} {t : TypeId} {x y : Operand} {a b : ByteArray} : (eqGuard op t x y (.string a) (.string b)).run P w = .ok () w := by cases op <;> rfl
theorem guard_bool {op : BinOp} {t : TypeId} {x y : Operand} {a b : Bool} : (eqGuard op t x y (.bool a) (.bool b)).run P w = .ok () w := by cases op <;> rfl

theorem guard_ptr {op : BinOp} {t : TypeId} {x y : Operand} {a b : Option Addr} : (eqGuard op t x y (.pointer a) (.pointer b)).run P w = .ok () w := by cases op <;> rfl

theorem eqPtr_none {t e : TypeId} {q : Option Addr} (h : P.underlying t = some (.pointer e)) (d : Nat) : (Op.equalIn (d + 1) t (.pointer none) (.pointer q)).run P w = .ok q.isNone w := by
  cases q <;> simp [Op.equalIn, run_underlying h]
theorem eqPtr_none' {t e : TypeId} {q : Option Addr} (h : P.underlying t = some (.pointer e)) (d : Nat) : (Op.equalIn (d + 1) t (.pointer q) (.pointer none)).run P w = .ok q.isNone w := by
  cases q <;> simp [Op.equalIn, run_underlying h]

theorem run_eqlPtr {t e : TypeId} {a b : Option Addr} {r : Bool} (h : ∀ d, (Op.equalIn (d + 1) t (.pointer a) (.pointer b)).run P w = .ok r w) (_ : P.underlying t = some (.pointer e)) :
    (binOp .eql t (.pointer a) (.pointer b)).run P w = .ok (.bool r) w := by
  simp only [binOp]
  simp [Op.equal, Op.maxDepth, h 9999]
theorem run_neqPtr {t e : TypeId} {a b : Option Addr} {r : Bool} (h : ∀ d, (Op.equalIn (d + 1) t (.pointer a) (.pointer b)).run P w = .ok r w) (_ : P.underlying t = some (.pointer e)) :
    (binOp .neq t (.pointer a) (.pointer b)).run P w = .ok (.bool (!r)) w := by
  simp only [binOp]
  simp [Op.equal, Op.maxDepth, h 9999]

theorem ptrEq_ok {op : BinOp} {t : TypeId} {x y : AV} {ox oy : Operand} {v u : Value} {b : Bool} (h : ptrEq P op t x y = some b) (m : Mat E η x v) (m' : Mat E η y u) :
    (do eqGuard op t ox oy v u; binOp op t v u : Sem Value).run P w = .ok (.bool b) w := by
  unfold ptrEq at h
  split at h
  · split at h
    · rename_i e hu
      split at h
      · cases h
        simp only [Mat] at m m'; subst m; subst m'
        simp only [Sem.run_bind, guard_ptr, Result.andThen_ok]
        exact run_eqlPtr (fun d => eqPtr_none hu d) hu
      · cases h
        simp only [Mat] at m m'; obtain ⟨A, _, rfl⟩ := m; subst m'
        simp only [Sem.run_bind, guard_ptr, Result.andThen_ok]
        exact run_eqlPtr (fun d => eqPtr_none' hu d) hu
      · cases h
        simp only [Mat] at m m'; obtain ⟨A, _, rfl⟩ := m'; subst m
        simp only [Sem.run_bind, guard_ptr, Result.andThen_ok]
        exact run_eqlPtr (fun d => eqPtr_none hu d) hu
      · cases h
    · cases h
  · split at h
    · rename_i e hu
      split at h
      · split at h
        · rename_i hc
          cases h
          obtain ⟨rfl, rfl, hi⟩ := hc
          simp only [Mat] at m m'; obtain ⟨A, hA, rfl⟩ := m; obtain ⟨A', hA', rfl⟩ := m'
          rw [hA] at hA'; cases hA'
          simp only [Sem.run_bind, guard_ptr, Result.andThen_ok]
          unfold infoOk at hi
          obtain ⟨i, hi⟩ := Option.isSome_iff_exists.1 hi
          exact Lib.run_neq_ptr_same w _ hu hi
        · cases h
      · cases h
        simp only [Mat] at m m'; subst m; subst m'
        simp only [Sem.run_bind, guard_ptr, Result.andThen_ok]
        exact run_neqPtr (r := true) (fun d => eqPtr_none hu d) hu
      · cases h
        simp only [Mat] at m m'; obtain ⟨A, _, rfl⟩ := m; subst m'
        simp only [Sem.run_bind, guard_ptr, Result.andThen_ok]
        exact run_neqPtr (r := false) (fun d => eqPtr_none' hu d) hu
      · cases h
        simp only [Mat] at m m'; obtain ⟨A, _, rfl⟩ := m'; subst m
        simp only [Sem.run_bind, guard_ptr, Result.andThen_ok]
        exact run_neqPtr (r := false) (fun d => eqPtr_none hu d) hu
      · cases h
    · cases h
  · cases h

theorem binA_ok {op : BinOp} {t : TypeId} {x y : AV} {ox oy : Operand} {v u : Value} {r : R} (h : binA P op t x y fid = some r) (m : Mat E η x v) (m' : Mat E η y u) (hs : r.side) :
    Ends P E η H w fid r (do eqGuard op t ox oy v u; binOp op t v u) := by
  unfold binA at h
  split at h
  · split at h
    · rename_i k a k' c h1 h2
      have e1 := avInt_ok h1 m; have e2 := avInt_ok h2 m'
      subst e1; subst e2
      have run : 0 ≤ c → (binOp .shl t (.int k a) (.int k' c)).run P w = .ok (.int k (k.wrap (a * 2 ^ (min c.toNat k.bits)))) w := fun h0 => by
        simp [binOp, Op.shift, Int.not_lt.2 h0]
      split at h
      · split at h
        · rename_i h0
          cases h
          refine ends_pure ?_ (mkInt_mat _ _ _)
          simp [guard_int, run h0]
        · cases h
      · cases h
        refine ends_pure ?_ (v := .int k (k.wrap (a * 2 ^ (min c.toNat k.bits)))) (by simp [Mat])
        simp [guard_int, run hs]
    · cases h
  · split at h
    · rename_i k a k' c h1 h2
      have e1 := avInt_ok h1 m; have e2 := avInt_ok h2 m'
      subst e1; subst e2
      have run : 0 ≤ c → (binOp .shr t (.int k a) (.int k' c)).run P w = .ok (.int k (a.fdiv (2 ^ (min c.toNat k.bits)))) w := fun h0 => by
        simp [binOp, Op.shift, Int.not_lt.2 h0]
      split at h
      · split at h
        · rename_i h0
          cases h
          refine ends_pure ?_ (mkInt_mat _ _ _)
          simp [guard_int, run h0]
        · cases h
      · cases h
        refine ends_pure ?_ (v := .int k (a.fdiv (2 ^ (min c.toNat k.bits)))) (by simp [Mat])
        simp [guard_int, run hs]
    · cases h
  · split at h
    · rename_i k a k' c h1 h2
      have e1 := avInt_ok h1 m; have e2 := avInt_ok h2 m'
      subst e1; subst e2
      split at h
      · rename_i hk; subst hk
        have run : c ≠ 0 → (binOp .quo t (.int k a) (.int k c)).run P w = .ok (.int k (k.wrap (a.tdiv c))) w := fun h0 => by
          simp [binOp, Op.intDiv, h0]
        split at h
        · split at h
          · cases h
          · rename_i h0
            cases h
            refine ends_pure ?_ (mkInt_mat _ _ _)
            simp [guard_int, run h0]
        · cases h
          refine ends_pure ?_ (v := .int k (k.wrap (a.tdiv c))) (by simp [Mat])
          simp [guard_int, run hs]
      · cases h
    · cases h
  · split at h
    · rename_i k a k' c h1 h2
      have e1 := avInt_ok h1 m; have e2 := avInt_ok h2 m'
      subst e1; subst e2
      split at h
      · rename_i hk; subst hk
        have run : c ≠ 0 → (binOp .rem t (.int k a) (.int k c)).run P w = .ok (.int k (a.tmod c)) w := fun h0 => by
          simp [binOp, Op.intDiv, h0]
        split at h
        · split at h
          · cases h
          · rename_i h0
            cases h
            refine ends_pure ?_ (mkInt_mat _ _ _)
            simp [guard_int, run h0]
        · cases h
          refine ends_pure ?_ (v := .int k (a.tmod c)) (by simp [Mat])
          simp [guard_int, run hs]
      · cases h
    · cases h
  · simp only [Mat] at m m'; subst m; subst m'
    split at h
    · cases h
      refine ends_pure (v := .string _) ?_ (by simp [Mat]; rfl)
      have hs' : ¬ IntKind.i64.max < ((_ : Nat) : Int) := Int.not_lt.2 hs
      simp only [Sem.run_bind, guard_str, Result.andThen_ok, binOp, Op.stringOp]
      rw [if_neg hs']
      rfl
    · split at h
      · rename_i r' hr
        cases h
        refine ends_pure ?_ (v := .bool r') (by simp [Mat])
        simp [guard_str, strBin_ok hr]
      · cases h
  · rename_i l ml _ _ _ _
    simp only [Mat] at m m'
    obtain ⟨cs, rfl, m1⟩ := m
    obtain ⟨ds, rfl, m2⟩ := m'
    split at h
    · rename_i hg
      split at h
      · rename_i s hk
        obtain ⟨b, hb, hb1, hl⟩ := kindsT_agg hk
        have key : ∀ r', cellsEq s l ml = some r' → b = true → (Op.equal t (.agg cs) (.agg ds)).run P w = .ok r' w := fun r' hr hbt => by
          subst hbt; exact run_equal_plain hk hb (cellsEq_ok hr m1 m2)
        have hgd : ∀ op, (eqGuard op t ox oy (.agg cs) (.agg ds)).run P w = .ok () w := fun op => run_eqGuard_agg w op t ox oy cs ds hg.1
        have hbt : b = true := by have := hg.2; rw [hb] at this; cases this; rfl
        split at h
        · rename_i r' hr _ _ _ _
          cases h
          refine ends_pure (v := .bool r') ?_ (by simp [Mat])
          simp [hgd, binOp, key r' hr hbt]
        · rename_i r' hr _ _ _ _
          cases h
          refine ends_pure (v := .bool (!r')) ?_ (by simp [Mat])
          simp [hgd, binOp, key r' hr hbt]
        · cases h
      · cases h
    · cases h
  · rename_i n1 n2 n3 n4 n5 n6
    split at h
    · rename_i k a k' b h1 h2
      have e1 := avInt_ok h1 m; have e2 := avInt_ok h2 m'
      subst e1; subst e2
      split at h
      · rename_i hk; subst hk
        split at h
        · rename_i r' hr
          cases h
          refine ends_pure ?_ (mkInt_mat _ _ _)
          simp only [Sem.run_bind, guard_int, Result.andThen_ok]
          exact intBin_ok hr
        · split at h
          · rename_i r' hr
            cases h
            refine ends_pure ?_ (mkBool_mat _ _)
            simp only [Sem.run_bind, guard_int, Result.andThen_ok]
            exact cmpBin_ok hr
          · cases h
      · cases h
    · split at h
      · rename_i b hb
        cases h
        exact ends_pure (ptrEq_ok hb m m') (by simp [Mat])
      split at h
      · rename_i a b h1 h2 hu
        have e1 := avBool_ok h1 m; have e2 := avBool_ok h2 m'
        subst e1; subst e2
        have e : (Op.equal t (.bool a) (.bool b)).run P w = .ok (a == b) w := run_equalIn_bool' w 9999 t a b hu
        split at h
        · cases h
          refine ends_pure ?_ (mkBool_mat _ _)
          simp [guard_bool, binOp, e]
        · cases h
          refine ends_pure ?_ (mkBool_mat _ _)
          simp [guard_bool, binOp, e]
        · cases h
      · cases h
end
end Go.Proofs.YtkihnmpjpbfiaaaDoor.Ev
