/- The account of a whole code: sequences, branches, loops. -/
import Derived.Test.YtkihnmpjpbfiaaaDoorEv17b
set_option linter.unusedVariables false
set_option linter.unusedSimpArgs false
namespace Go.Proofs.YtkihnmpjpbfiaaaDoor.Ev
open Go

inductive Ex where
  | norm
  | exit (id : Nat)
  | ret

def Ex.real : Ex → Exit
  | .norm => .normal
  | .exit id => .exit id
  | .ret => .ret

def firstReg : Code → Nat
  | .region id _ _ => id
  | .seq a b => match a with
    | .skip => firstReg b
    | _ => firstReg a
  | .cond _ a _ => firstReg a
  | .block _ b => firstReg b
  | .loop b => firstReg b
  | .scope b => firstReg b
  | _ => 0

def St.val (s : St) : Operand → AV := rop fun t => s.tmps.getD t .u

/-- An invariant of two shapes. -/
structure LInv2 where
  σ : Type
  τ : Type
  st : σ → St
  st' : τ → St
  m : σ ⊕ τ → Nat
  rel : σ ⊕ τ → σ ⊕ τ → Prop

/-- How a loop is walked. -/
inductive How where
  | inv (I : LInv)
  | inv2 (I : LInv2)
  | unroll (n : Nat)

def rounds (body : St → (Ex → St → Prop) → Prop) : Nat → St → (Ex → St → Prop) → Prop
  | 0, _, _ => False
  | n + 1, s, K => body s fun e s' => match e with
    | .norm => rounds body n s' K
    | .exit id => K (.exit id) s'
    | .ret => K .ret s'

def setTmp (s : St) (t : Nat) (v : AV) (K : St → Prop) : Prop := setK s.tmps t v fun tm => K ⟨tm, s.heap, s.ds⟩

def awp (C : Ctx) (how : Nat → How) : Code → St → (Ex → St → Prop) → Prop
  | .skip, s, K => K .norm s
  | .label _, s, K => K .norm s
  | .region _ ops draw, s, K => match draw with
    | false => seqA C ops ops.toList s [] fun s' _ => K .norm s'
    | true => if edgesBack ops = true then seqA C ops ops.toList s [] fun s' tr => indepAll ops tr.reverse 0 = true ∧ K .norm s' else False
  | .seq x y, s, K => awp C how x s fun e s' => match e with
    | .norm => awp C how y s' K
    | .exit id => K (.exit id) s'
    | .ret => K .ret s'
  | .cond c x y, s, K => match s.val c with
    | .b t => match t with
      | true => awp C how x s K
      | false => awp C how y s K
    | .c e => match c with
      | .tmp t => (e = true → setTmp s t (.b true) fun s => awp C how x s K) ∧ (e = false → setTmp s t (.b false) fun s => awp C how y s K)
      | _ => False
    | _ => False
  | .block id x, s, K => awp C how x s fun e s' => match e with
    | .norm => K .norm s'
    | .exit id' => if id' = id then K .norm s' else K (.exit id') s'
    | .ret => K .ret s'
  | .loop x, s, K => match how (firstReg x) with
    | .unroll n => rounds (awp C how x) n s K
    | .inv I => ∃ x0, I.rel x0 x0 ∧ leSt C.na s (I.st x0) ∧ ∀ y, I.rel x0 y → awp C how x (I.st y) fun e s' => match e with
      | .norm => ∃ y', I.m y' < I.m y ∧ I.rel x0 y' ∧ leSt C.na s' (I.st y')
      | .exit id => K (.exit id) s'
      | .ret => K .ret s'
    | .inv2 I => ∃ x0, ((∃ x, x0 = .inl x ∧ I.rel x0 x0 ∧ leSt C.na s (I.st x)) ∨ (∃ x, x0 = .inr x ∧ I.rel x0 x0 ∧ leSt C.na s (I.st' x))) ∧
      (∀ y, I.rel x0 (.inl y) → awp C how x (I.st y) fun e s' => match e with
        | .norm => (∃ y', I.m (.inl y') < I.m (.inl y) ∧ I.rel x0 (.inl y') ∧ leSt C.na s' (I.st y')) ∨ (∃ y', I.m (.inr y') < I.m (.inl y) ∧ I.rel x0 (.inr y') ∧ leSt C.na s' (I.st' y'))
        | .exit id => K (.exit id) s'
        | .ret => K .ret s') ∧
      (∀ y, I.rel x0 (.inr y) → awp C how x (I.st' y) fun e s' => match e with
        | .norm => (∃ y', I.m (.inl y') < I.m (.inr y) ∧ I.rel x0 (.inl y') ∧ leSt C.na s' (I.st y')) ∨ (∃ y', I.m (.inr y') < I.m (.inr y) ∧ I.rel x0 (.inr y') ∧ leSt C.na s' (I.st' y'))
        | .exit id => K (.exit id) s'
        | .ret => K .ret s')
  | .scope x, s, K => awp C how x s K
  | .exit id, s, K => K (.exit id) s
  | .ret, s, K => K .ret s
  | .goto _, _, _ => False
  | .rangeFunc g ps asg body, s, K => if C.top = true then rangeA C s (s.val g) ⟨ps, asg, body⟩ fun j s' => match j with
      | none => K .norm s'
      | some .ret => K .ret s'
      | some (.exit id) => K (.exit id) s'
      | some _ => False
    else False
  | .refuse _, _, _ => False

section
variable {C : Ctx} {how : Nat → How} {E : Env} {m : Nat} {ro : Option Nat}

theorem stepR_scope {P : Program} {b : Frame} {a : Act} {k : List Item} {cs : List Frame} {w : World} {c : Code} :
    step P (lone (b.atR a (.code (.scope c) :: k)) cs w) = .next (lone (b.atR a (.code c :: .inScope c :: k)) cs w) :=
  step_lone_go (by simp [stepG, stepG.exec, Frame.atR])
theorem stepR_inScope {P : Program} {b : Frame} {a : Act} {k : List Item} {cs : List Frame} {w : World} {c : Code} :
    step P (lone (b.atR a (.inScope c :: k)) cs w) = .next (lone (b.atR a k) cs w) :=
  step_lone_go (by simp [stepG, stepG.exec, Frame.atR])

theorem wpIn_scope_ff {F : Fence} {P : Program} {Q : Exit → Act → World → Prop} {a : Act} {w : World} {c : Code} (h : c.wpIn F m P (Exit.noGoto Q) a w) : (Code.scope c).wpIn F m P Q a w := by
  intro b k cs hro hb hr
  have h0 : (lone (b.atR a (.code (.scope c) :: k)) cs w).fenced P F := fenced_calm hb hr rfl
  obtain ⟨e, a₁, w₁, hq, harr⟩ := h b (.inScope c :: k) cs hro hb hr
  cases e with
  | normal => exact ⟨.normal, a₁, w₁, hq, .head h0 stepR_scope (StepsIn.trans harr (.one (fenced_calm hb hr rfl) stepR_inScope))⟩
  | exit id =>
    have hx : exitTo id (.inScope c :: k) = exitTo id k := by simp [exitTo]
    exact ⟨.exit id, a₁, w₁, hq, fun k' hk => .head h0 stepR_scope (harr.1 k' (by rw [hx]; exact hk)),
      fun hr' hk => let ⟨k₁, h1, h2⟩ := harr.2 hr' (by rw [hx]; exact hk); ⟨k₁, h1, .head h0 stepR_scope h2⟩⟩
  | goto l => exact hq.elim
  | ret => exact ⟨_, a₁, w₁, hq, .of_steps (.one h0 stepR_scope) harr⟩
  | panic ch => exact ⟨_, a₁, w₁, hq, .of_steps (.one h0 stepR_scope) harr⟩
  | outgrown => exact ⟨_, a₁, w₁, hq, .of_steps (.one h0 stepR_scope) harr⟩

theorem fits_tmp {s : St} {a : Act} {w : World} {η : Eta} {t : Nat} {e b : Bool} (hf : Fits E s a w η) (hg : s.tmps.getD t .u = .c e) (he : e = b) :
    Fits E ⟨s.tmps.set t (.b b), s.heap, s.ds⟩ a w η := fits_know hf hg he

noncomputable def leastN (p : Nat → Prop) : Nat := by
  classical exact if h : ∃ n, p n then Nat.find' p h else 0
where
  Nat.find' (p : Nat → Prop) (h : ∃ n, p n) : Nat := Classical.choose (p := fun n => p n ∧ ∀ k, p k → n ≤ k) (by
    obtain ⟨n, hn⟩ := h
    induction n using Nat.strongRecOn with
    | _ n ih =>
      by_cases hk : ∃ k, k < n ∧ p k
      · obtain ⟨k, h1, h2⟩ := hk; exact ih k h1 h2
      · exact ⟨n, hn, fun k hp => Nat.le_of_not_lt fun hlt => hk ⟨k, hlt, hp⟩⟩)

theorem leastN_spec {p : Nat → Prop} (h : ∃ n, p n) : p (leastN p) ∧ ∀ k, p k → leastN p ≤ k := by
  unfold leastN
  rw [dif_pos h]
  exact Classical.choose_spec (p := fun n => p n ∧ ∀ k, p k → n ≤ k) _

theorem wpIn_loop_num {F : Fence} {rm : Nat} {P : Program} {Q : Exit → Act → World → Prop} {a : Act} {w : World} {c : Code} (I : Nat → Act → World → Prop) (n₀ : Nat) (h₀ : I n₀ a w)
    (round : ∀ n a w, I n a w → c.wpIn F rm P (Exit.then (fun a' w' => ∃ n', n' < n ∧ I n' a' w') Q) a w) : (Code.loop c).wpIn F rm P Q a w := by
  refine wpIn_loop (fun a w => ∃ n, I n a w) (fun a w => leastN (fun n => I n a w)) ⟨n₀, h₀⟩ ?_
  intro a w hI
  refine wpIn_mono (round _ a w (leastN_spec hI).1) ?_
  intro e a' w' hq
  cases e with
  | normal =>
    obtain ⟨n', hlt, hI'⟩ := hq
    exact show (∃ n, I n a' w') ∧ leastN (fun n => I n a' w') < leastN (fun n => I n a w) from ⟨⟨n', hI'⟩, Nat.lt_of_le_of_lt ((leastN_spec ⟨n', hI'⟩).2 n' hI') hlt⟩
  | exit id => exact hq
  | goto l => exact hq
  | ret => exact hq
  | panic ch => exact hq
  | outgrown => exact hq

theorem awp_ok (hna : ∀ j A, E.an j = some A → j < C.na) (htop : C.top = true → ro = none) (hsp : SpecsOk C.P C.sp) (hmix : C.P.follows .mixedOrders = true) : ∀ (c : Code) (s : St) (K : Ex → St → Prop) (a : Act) (w : World) (η : Eta) (Q : Exit → Act → World → Prop),
    awp C how c s K → Fits E s a w η → (∀ e s' a' w' η', K e s' → Fits E s' a' w' η' → Q e.real a' w') → c.wpIn (FF ro) m C.P Q a w := by
  intro c
  induction c with
  | skip => intro s K a w η Q h hf hQ; exact wpIn_skip (hQ _ _ _ _ _ h hf)
  | label l => intro s K a w η Q h hf hQ; exact wpIn_label (hQ _ _ _ _ _ h hf)
  | exit id => intro s K a w η Q h hf hQ; exact wpIn_exit (hQ _ _ _ _ _ h hf)
  | ret => intro s K a w η Q h hf hQ; exact wpIn_ret (hQ _ _ _ _ _ h hf)
  | goto l => intro s K a w η Q h hf hQ; exact h.elim
  | rangeFunc g ps x y _ _ =>
    intro s K a w η Q h hf hQ
    simp only [awp] at h
    split at h
    · rename_i ht
      have hro := htop ht
      subst hro
      refine range_ok hsp hf (rop_mat (E := E) (η := η) hf.tm g) h fun j s' a' w' η' hk hf' => ?_
      cases j with
      | none => exact hQ .norm _ _ _ _ hk hf'
      | some c =>
        cases c <;> simp only at hk <;> try exact hk.elim
        case exit id => exact wpIn_exit (hQ (.exit id) _ _ _ _ hk hf')
        case ret => exact wpIn_ret (hQ .ret _ _ _ _ hk hf')
    · exact h.elim
  | refuse y => intro s K a w η Q h hf hQ; exact h.elim
  | scope x ih =>
    intro s K a w η Q h hf hQ
    exact wpIn_scope_ff (ih s K a w η _ h hf fun e s' a' w' η' hk hf' => by cases e <;> exact hQ _ _ _ _ _ hk hf')
  | region id ops draw =>
    intro s K a w η Q h hf hQ
    cases draw with
    | false =>
      simp only [awp] at h
      obtain ⟨tf, s', hp, hk⟩ := path_of_seqA h
      refine wpIn_region ?_
      have := path_seq (m := m) (ro := ro) (k := 0) (Q := Q) hsp hp (fun j => by simp) hf (fun a' w' η' hf' => hQ .norm _ _ _ _ hk hf')
      simpa [List.range_eq_range'] using this
    | true =>
      simp only [awp] at h
      split at h
      · rename_i hb
        obtain ⟨tf, s', hp, hk⟩ := path_of_seqA h
        refine path_draw hsp hmix hp hb ?_ hf (fun a' w' η' hf' => hQ .norm _ _ _ _ hk.2 hf')
        simpa using hk.1
      · exact h.elim
  | seq x y ihx ihy =>
    intro s K a w η Q h hf hQ
    simp only [awp] at h
    refine wpIn_seq (ihx s _ a w η _ h hf fun e s' a' w' η' hk hf' => ?_)
    cases e with
    | norm => exact ihy _ _ _ _ _ _ hk hf' hQ
    | exit id => exact hQ (.exit id) _ _ _ _ hk hf'
    | ret => exact hQ .ret _ _ _ _ hk hf'
  | cond c x y ihx ihy =>
    intro s K a w η Q h hf hQ
    have hc := rop_mat (E := E) (η := η) hf.tm c
    simp only [awp] at h
    split at h
    · rename_i t ht
      have ht' : rop (fun t => s.tmps.getD t .u) c = .b t := ht
      rw [ht'] at hc
      simp only [Mat] at hc
      cases t with
      | true => exact wpIn_cond_true hc (ihx _ _ _ _ _ _ h hf hQ)
      | false => exact wpIn_cond_false hc (ihy _ _ _ _ _ _ h hf hQ)
    · rename_i e ht
      have ht' : rop (fun t => s.tmps.getD t .u) c = .c e := ht
      rw [ht'] at hc
      simp only [Mat] at hc
      split at h
      · rename_i t
        have ht2 : s.tmps.getD t .u = .c e := by simpa [rop] using ht'
        refine wpIn_cond_split hc (fun he => ?_) (fun he => ?_)
        · have h := h.1 he
          unfold setTmp at h
          rw [setK_eq] at h
          exact ihx _ _ _ _ _ _ h (fits_tmp hf ht2 he) hQ
        · have h := h.2 he
          unfold setTmp at h
          rw [setK_eq] at h
          exact ihy _ _ _ _ _ _ h (fits_tmp hf ht2 he) hQ
      · exact h.elim
    · exact h.elim
  | block id x ih =>
    intro s K a w η Q h hf hQ
    simp only [awp] at h
    refine wpIn_block (ih s _ a w η _ h hf fun e s' a' w' η' hk hf' => ?_)
    cases e with
    | norm => exact hQ .norm _ _ _ _ hk hf'
    | ret => exact hQ .ret _ _ _ _ hk hf'
    | exit id' =>
      simp only [Ex.real, Exit.inBlock]
      simp only at hk
      by_cases e : id' = id
      · rw [if_pos e] at hk ⊢; exact hQ .norm _ _ _ _ hk hf'
      · rw [if_neg e] at hk ⊢; exact hQ (.exit id') _ _ _ _ hk hf'
  | loop x ih =>
    intro s K a w η Q h hf hQ
    simp only [awp] at h
    split at h
    · rename_i n hn
      refine wpIn_loop_rounds n ?_
      clear hn
      induction n generalizing s a w η with
      | zero => exact h.elim
      | succ n ihn =>
        rw [roundsIn_succ]
        simp only [rounds] at h
        refine ih s _ a w η _ h hf fun e s' a' w' η' hk hf' => ?_
        cases e with
        | norm => exact ihn _ _ _ _ hf' hk
        | exit id => exact hQ (.exit id) _ _ _ _ hk hf'
        | ret => exact hQ .ret _ _ _ _ hk hf'
    · rename_i I hI
      obtain ⟨x0, hr0, hle, hround⟩ := h
      obtain ⟨η0, hf0⟩ := leSt_ok hna hf hle
      refine wpIn_loop_num (fun n a w => ∃ y η, I.rel x0 y ∧ I.m y = n ∧ Fits E (I.st y) a w η) (I.m x0) ⟨x0, η0, hr0, rfl, hf0⟩ ?_
      rintro n a w ⟨y, η1, hr1, rfl, hf1⟩
      refine ih _ _ a w η1 _ (hround y hr1) hf1 fun e s' a' w' η' hk hf' => ?_
      cases e with
      | norm =>
        obtain ⟨y', h1, h2, h3⟩ := hk
        obtain ⟨η2, hf2⟩ := leSt_ok hna hf' h3
        exact ⟨_, h1, y', η2, h2, rfl, hf2⟩
      | exit id => exact hQ (.exit id) _ _ _ _ hk hf'
      | ret => exact hQ .ret _ _ _ _ hk hf'
    · rename_i I hI
      obtain ⟨x0, h0, hround1, hround2⟩ := h
      obtain ⟨x1, hr0, hx⟩ : ∃ x1 : I.σ ⊕ I.τ, I.rel x0 x1 ∧ ∃ η, Fits E (x1.elim I.st I.st') a w η := by
        rcases h0 with ⟨x, rfl, hr, hle⟩ | ⟨x, rfl, hr, hle⟩
        · exact ⟨_, hr, leSt_ok hna hf hle⟩
        · exact ⟨_, hr, leSt_ok hna hf hle⟩
      obtain ⟨η0, hf0⟩ := hx
      refine wpIn_loop_num (fun n a w => ∃ (y : I.σ ⊕ I.τ) (η : Eta), I.rel x0 y ∧ I.m y = n ∧ Fits E (y.elim I.st I.st') a w η) (I.m x1) ⟨x1, η0, hr0, rfl, hf0⟩ ?_
      rintro n a w ⟨y, η1, hr1, rfl, hf1⟩
      have fin : ∀ (e : Ex) (s' : St) (a' : Act) (w' : World) (η' : Eta), (match e with
          | .norm => (∃ y', I.m (.inl y') < I.m y ∧ I.rel x0 (.inl y') ∧ leSt C.na s' (I.st y')) ∨ (∃ y', I.m (.inr y') < I.m y ∧ I.rel x0 (.inr y') ∧ leSt C.na s' (I.st' y'))
          | .exit id => K (.exit id) s'
          | .ret => K .ret s') → Fits E s' a' w' η' → Exit.then (fun a' w' => ∃ n', n' < I.m y ∧ ∃ (y' : I.σ ⊕ I.τ) (η : Eta), I.rel x0 y' ∧ I.m y' = n' ∧ Fits E (y'.elim I.st I.st') a' w' η) Q e.real a' w' := by
        intro e s' a' w' η' hk hf'
        cases e with
        | norm =>
          rcases hk with ⟨y', h1, h2, h3⟩ | ⟨y', h1, h2, h3⟩
          · obtain ⟨η2, hf2⟩ := leSt_ok hna hf' h3
            exact ⟨_, h1, .inl y', η2, h2, rfl, hf2⟩
          · obtain ⟨η2, hf2⟩ := leSt_ok hna hf' h3
            exact ⟨_, h1, .inr y', η2, h2, rfl, hf2⟩
        | exit id => exact hQ (.exit id) _ _ _ _ hk hf'
        | ret => exact hQ .ret _ _ _ _ hk hf'
      cases y with
      | inl y => exact ih _ _ a w η1 _ (hround1 y hr1) hf1 fin
      | inr y => exact ih _ _ a w η1 _ (hround2 y hr1) hf1 fin
end
end Go.Proofs.YtkihnmpjpbfiaaaDoor.Ev
