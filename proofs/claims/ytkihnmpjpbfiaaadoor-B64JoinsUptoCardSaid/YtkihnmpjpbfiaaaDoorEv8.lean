/- What an operation does, by its abstract account: parts of slices and arrays; lengths; least and greatest. -/
import Derived.Test.YtkihnmpjpbfiaaaDoorEv7
set_option linter.unusedVariables false
set_option linter.unusedSimpArgs false
namespace Go.Proofs.YtkihnmpjpbfiaaaDoor.Ev
open Go

section
variable {P : Program} {E : Env} {η : Eta} {H : Nat → AB} {D : Nat → Prop} {w : World} {fid : Nat}

/-- A bound that is there, or not. -/
def BoundOk (E : Env) (η : Eta) : Option AV → Option Value → Prop
  | none, none => True
  | some a, some v => Mat E η a v
  | _, _ => False

theorem numA_ok {d n : AN} {x : Option AV} {v : Option Value} (h : numA d x = some n) (hp : posA x) (m : BoundOk E η x v) :
    (v = none ∧ n = d) ∨ ∃ k, v = some (.int k n.v) := by
  unfold numA at h
  split at h
  · cases h
    cases v with
    | none => exact .inl ⟨rfl, rfl⟩
    | some v => exact m.elim
  · rename_i k i
    split at h
    · rename_i h0
      cases h
      cases v with
      | none => exact m.elim
      | some v => simp only [BoundOk, Mat] at m; exact .inr ⟨k, by rw [m]; simp [Int.toNat_of_nonneg h0]⟩
    · cases h
  · rename_i k e
    cases h
    cases v with
    | none => exact m.elim
    | some v =>
      simp only [BoundOk, Mat] at m
      have : (0 : Int) ≤ e := hp
      exact .inr ⟨k, by rw [m]; simp [Int.toNat_of_nonneg this]⟩
  · cases h

theorem run_sliceBound {k : IntKind} {n y : Nat} {code : BoundsCode} (h : n ≤ y) : (Instr.sliceBound (.int k n) y code).run P w = .ok n w := by
  simp only [Instr.sliceBound, asIntOf, Sem.run_bind, Sem.run_pure, Result.andThen_ok]
  rw [if_pos ⟨by omega, by omega⟩]
  simp

theorem run_sliceBounds {b : Bool} {len cap l h : Nat} {lo hi : Option Value} (h1 : (lo = none ∧ l = 0) ∨ ∃ k, lo = some (.int k l)) (h2 : (hi = none ∧ h = len) ∨ ∃ k, hi = some (.int k h))
    (hl : l ≤ h) (hc : h ≤ cap) : (Instr.sliceBounds b len cap lo hi none).run P w = .ok (l, h, cap) w := by
  rcases h1 with ⟨rfl, rfl⟩ | ⟨k, rfl⟩ <;> rcases h2 with ⟨rfl, rfl⟩ | ⟨k', rfl⟩ <;>
    simp [Instr.sliceBounds, run_sliceBound hc, run_sliceBound hl]

theorem sliceA_ok {t : TypeId} {x : AV} {lo hi : Option AV} {vlo vhi : Option Value} {v : Value} {r : R} (h : sliceA P t x lo hi fid = some r) (m : Mat E η x v) (ml : BoundOk E η lo vlo) (mh : BoundOk E η hi vhi)
    (hs : r.side) : Ends P E η H w fid r (Instr.sliceAt t v vlo vhi none) := by
  have h' := h
  unfold sliceA at h'
  clear h
  split at h'
  · rename_i s hu
    simp only [Mat] at m; subst m
    split at h'
    · rename_i l hh h1 h2
      cases h'
      obtain ⟨s1, s2, s3, s4⟩ := hs
      have b1 := numA_ok h1 s1 ml
      have b2 := numA_ok h2 s2 mh
      refine ends_pure (v := .string (s.extract l.v hh.v)) ?_ (by simp [Mat])
      simp only [Instr.sliceAt, Instr.slice, Sem.run_bind, run_underlying' hu, Result.andThen_ok]
      have b1' : (vlo = none ∧ l.v = 0) ∨ ∃ k, vlo = some (.int k l.v) := b1.imp (fun ⟨a, b⟩ => ⟨a, by rw [b]; rfl⟩) id
      have b2' : (vhi = none ∧ hh.v = s.size) ∨ ∃ k, vhi = some (.int k hh.v) := b2.imp (fun ⟨a, b⟩ => ⟨a, by rw [b]; rfl⟩) id
      simp [run_sliceBounds b1' b2' s3 s4]
    · cases h'
  · rename_i e id w' o n hu
    simp only [Mat] at m
    obtain ⟨A, a, c, hA, hle, hcA, rfl, ha⟩ := m
    split at h'
    · rename_i hw
      obtain ⟨i, hi⟩ := Option.isSome_iff_exists.1 hw.2
      split at h'
      · rename_i l hh h1 h2
        cases h'
        obtain ⟨s1, s2, s3, s4⟩ := hs
        have b1 := numA_ok h1 s1 ml
        have b2 := numA_ok h2 s2 mh
        have b1' : (vlo = none ∧ l.v = 0) ∨ ∃ k, vlo = some (.int k l.v) := b1.imp (fun ⟨a, b⟩ => ⟨a, by rw [b]; rfl⟩) (fun x => x)
        have b2' : (vhi = none ∧ hh.v = n.v) ∨ ∃ k, vhi = some (.int k hh.v) := b2.imp (fun ⟨a, b⟩ => ⟨a, by rw [b]⟩) (fun x => x)
        have hcap : hh.v ≤ c := by omega
        refine ends_pure (v := .slice (if c = l.v then a else a.map (·.add (l.v * P.cellsOf e))) (hh.v - l.v) (c - l.v)) ?_ ?_
        · simp only [Instr.sliceAt, Instr.slice, Sem.run_bind, run_underlying' hu, Result.andThen_ok, run_sliceBounds b1' b2' s3 hcap, run_sizeOf' hi, Sem.run_pure]
        · simp only [Mat, AN.v_add, AN.v_sub]
          by_cases e0 : c = l.v
          · rw [if_pos e0]
            exact ⟨A, a, _, hA, by omega, by omega, rfl, fun h0 => by omega⟩
          · rw [if_neg e0]
            refine ⟨A, _, _, hA, by omega, by omega, rfl, fun h0 => ?_⟩
            rw [ha (by omega), Option.map_some, add_eq, hw.1, Nat.add_mul, Nat.add_assoc]
      · cases h'
    · cases h'
  · rename_i e rc hu
    simp only [Mat] at m
    obtain ⟨a, c, rfl, hle, ha⟩ := m
    split at h'
    · rename_i hw
      obtain ⟨i, hi⟩ := Option.isSome_iff_exists.1 hw.2
      split at h'
      · rename_i l hh h1 h2
        cases h'
        obtain ⟨s1, s2, s3, s4⟩ := hs
        have b1 := numA_ok h1 s1 ml
        have b2 := numA_ok h2 s2 mh
        have b1' : (vlo = none ∧ l.v = 0) ∨ ∃ k, vlo = some (.int k l.v) := b1.imp (fun ⟨a, b⟩ => ⟨a, by rw [b]; rfl⟩) (fun x => x)
        have b2' : (vhi = none ∧ hh.v = rc.len) ∨ ∃ k, vhi = some (.int k hh.v) := b2.imp (fun ⟨a, b⟩ => ⟨a, by rw [b]; rfl⟩) (fun x => x)
        have hlen : (rc.sub l.v (hh.v - l.v)).len = hh.v - l.v := by rw [RC.sub_len]; omega
        refine ends_pure (v := .slice (if c = l.v then a else a.map (·.add (l.v * P.cellsOf e))) (hh.v - l.v) (c - l.v)) ?_ ?_
        · simp only [Instr.sliceAt, Instr.slice, Sem.run_bind, run_underlying' hu, Result.andThen_ok, run_sliceBounds b1' b2' s3 (Nat.le_trans s4 hle), run_sizeOf' hi, Sem.run_pure]
        · simp only [Mat, Ext]
          refine ⟨_, _, by rw [hlen], by rw [hlen]; omega, fun h0 => ?_⟩
          rw [hlen] at h0
          rw [if_neg (by omega)]
          obtain ⟨b, of, rfl, x1, x2, x3⟩ := ha (by omega)
          refine ⟨b, of + l.v * P.cellsOf e, by rw [Option.map_some, add_eq], x1, x2, fun j u hj => ?_⟩
          rw [RC.sub_vals] at hj
          have hlt : j < (hh.v - l.v) * rc.w := by
            have := (List.getElem?_eq_some_iff.1 hj).1
            rw [List.length_take] at this; omega
          rw [take_drop_get _ _ _ _ hlt] at hj
          rw [hw.1, Nat.add_assoc]
          exact x3 _ _ hj
      · cases h'
    · cases h'
  · rename_i e hu
    simp only [Mat] at m; subst m
    split at h'
    · cases h'
    · rename_i hie
      obtain ⟨i, hie'⟩ : ∃ i, P.info? e = some i := by
        cases hh : P.info? e with
        | none => simp [infoOk, hh] at hie
        | some i => exact ⟨i, rfl⟩
      split at h'
      · rename_i h1 h2
        cases h'
        have p1 : posA lo := by unfold posA; split <;> first | trivial | (simp [numA] at h1)
        have p2 : posA hi := by unfold posA; split <;> first | trivial | (simp [numA] at h2)
        have b1 := numA_ok h1 p1 ml
        have b2 := numA_ok h2 p2 mh
        have b1' : (vlo = none ∧ (0 : Nat) = 0) ∨ ∃ k, vlo = some (.int k (0 : Nat)) := b1.imp (fun ⟨a, b⟩ => ⟨a, rfl⟩) (fun x => x)
        have b2' : (vhi = none ∧ (0 : Nat) = 0) ∨ ∃ k, vhi = some (.int k (0 : Nat)) := b2.imp (fun ⟨a, b⟩ => ⟨a, rfl⟩) (fun x => x)
        refine ends_pure (v := .slice none 0 0) ?_ (by simp [Mat])
        simp [Instr.sliceAt, Instr.slice, run_underlying' hu, run_sliceBounds b1' b2' (Nat.le_refl 0) (Nat.le_refl 0), run_sizeOf' hie']
      · cases h'
  · cases h'

theorem sliceArrA_ok (hH : Heap E η H D w) {l : List Nat} {t : TypeId} {x : AV} {lo hi : Option AV} {vlo vhi : Option Value} {v : Value} {r : R} (h : sliceArrA P t x lo hi (within H l) fid = some r)
    (m : Mat E η x v) (ml : BoundOk E η lo vlo) (mh : BoundOk E η hi vhi) (hs : r.side) : Ends P E η H w fid r (Instr.sliceAt t v vlo vhi none) := by
  unfold sliceArrA at h
  split at h
  · rename_i n e id hu
    simp only [Mat] at m
    obtain ⟨A, hA, rfl⟩ := m
    split at h
    · rename_i cl hcl
      obtain ⟨B, hB, hb, _⟩ := hH.hp id (live_of hcl rfl)
      rw [hA] at hB; cases hB
      have hcl' := within_eq hcl rfl
      rw [hcl'] at hb
      obtain ⟨g0, cs, ty, fr, g1, g2, g3, g9⟩ := hb
      split at h
      · rename_i hw
        obtain ⟨i, hi'⟩ := Option.isSome_iff_exists.1 hw.2.2
        have hc := matC_length g3
        split at h
        · rename_i l hh h1 h2
          cases h
          obtain ⟨s1, s2, s3, s4⟩ := hs
          have b1 := numA_ok h1 s1 ml
          have b2 := numA_ok h2 s2 mh
          have b1' : (vlo = none ∧ l.v = 0) ∨ ∃ k, vlo = some (.int k l.v) := b1.imp (fun ⟨a, b⟩ => ⟨a, by rw [b]; rfl⟩) (fun x => x)
          have b2' : (vhi = none ∧ hh.v = n) ∨ ∃ k, vhi = some (.int k hh.v) := b2.imp (fun ⟨a, b⟩ => ⟨a, by rw [b]; rfl⟩) (fun x => x)
          refine ends_pure (v := .slice (some (if n = l.v then (⟨A.blk, A.off + 0, none⟩ : Addr) else (⟨A.blk, A.off + 0, none⟩ : Addr).add (l.v * P.cellsOf e))) (hh.v - l.v) (n - l.v)) ?_ ?_
          · simp only [Instr.sliceAt, Instr.sureAddr, Sem.run_bind, run_underlying' hu, Result.andThen_ok, run_sliceBounds b1' b2' s3 s4, run_sizeOf' hi', Sem.run_pure]
          · simp only [Mat, AN.v_sub]
            have hc2 := g2.2.1
            simp at hc
            refine ⟨A, _, _, hA, by omega, by omega, rfl, fun h0 => ?_⟩
            rw [if_neg (by omega), add_eq, hw.1, Nat.add_zero]
        · cases h
      · cases h
    · cases h
  · cases h

theorem min2_ok {x y z : AV} {v u : Value} (h : min2A x y = some z) (m : Mat E η x v) (m' : Mat E η y u) : ∃ r, (Builtin.min2 v u).run P w = .ok r w ∧ Mat E η z r ∧ ∃ q, avInt? z = some q := by
  unfold min2A at h
  simp only at h
  split at h
  · rename_i k a k' b h1 h2
    cases h
    have e1 := avInt_ok h1 m; have e2 := avInt_ok h2 m'
    subst e1; subst e2
    refine ⟨_, rfl, mkInt_mat _ _ _, ?_⟩
    cases hk : (isKnown x && isKnown y) <;> exact ⟨_, rfl⟩
  · cases h
theorem max2_ok {x y z : AV} {v u : Value} (h : max2A x y = some z) (m : Mat E η x v) (m' : Mat E η y u) : ∃ r, (Builtin.max2 v u).run P w = .ok r w ∧ Mat E η z r := by
  unfold max2A at h
  simp only at h
  split at h
  · rename_i k a k' b h1 h2
    cases h
    have e1 := avInt_ok h1 m; have e2 := avInt_ok h2 m'
    subst e1; subst e2
    exact ⟨_, rfl, mkInt_mat _ _ _⟩
  · cases h

theorem fold_ok {f : AV → AV → Option AV} {g : Value → Value → Sem Value} (hf : ∀ {x y z : AV} {v u : Value}, f x y = some z → Mat E η x v → Mat E η y u → ∃ r, (g v u).run P w = .ok r w ∧ Mat E η z r) :
    ∀ {l : List AV} {x z : AV} {vs : List Value} {v : Value}, foldA f l x = some z → MatL E η l vs → Mat E η x v → ∃ r, (vs.foldlM g v).run P w = .ok r w ∧ Mat E η z r
  | [], x, z, vs, v, h, ml, m => by
    simp only [foldA] at h; cases h
    simp only [MatL] at ml; subst ml
    exact ⟨v, by simp, m⟩
  | y :: l, x, z, vs, v, h, ml, m => by
    simp only [foldA] at h
    simp only [MatL] at ml
    obtain ⟨u, r, rfl, m1, m2⟩ := ml
    split at h
    · rename_i q hq
      obtain ⟨r1, e1, n1⟩ := hf hq m m1
      obtain ⟨r2, e2, n2⟩ := fold_ok hf h m2 n1
      exact ⟨r2, by simp [e1, e2], n2⟩
    · cases h

theorem lenA_ok {t : TypeId} {x : AV} {v : Value} {r : R} {ts : Array TypeId} {ty : TypeId} (ht : ts[0]? = some t) (h : lenA P t x fid = some r) (m : Mat E η x v) : Ends P E η H w fid r (Builtin.len_ ts ty #[v]) := by
  have hd : ∀ d, P.underlying t = some d → ∀ s, (match d, v with
      | .string, .string s => pure (goInt s.size)
      | .array n _, _ => pure (goInt n)
      | .slice _, .slice _ n _ => pure (goInt n)
      | _, _ => stuck "" : Sem Value) = pure s → (Builtin.len_ ts ty #[v]).run P w = .ok s w := by
    intro d hu s hs
    unfold Builtin.len_
    simp only [ht]
    cases d <;> first | (cases hs; done) | skip
    all_goals (cases v <;> first | (cases hs; done) | (cases hs; simp [run_underlying' hu]))
  unfold lenA at h
  split at h
  · rename_i s hu
    cases h; simp only [Mat] at m; subst m
    exact ends_pure (v := .int .i64 s.size) (hd _ hu _ rfl) (by simp [Mat])
  · rename_i y n e hu
    split at h
    · cases h
    · cases h
      exact ends_pure (v := .int .i64 n) (hd _ hu _ rfl) (by simp [Mat])
  · rename_i e id w' lo len hu
    cases h; simp only [Mat] at m
    obtain ⟨A, a, c, hA, hle, hcA, rfl, ha⟩ := m
    exact ends_pure (v := .int .i64 len.v) (hd _ hu _ rfl) (by cases len <;> simp [AN.av, Mat])
  · rename_i e rc hu
    cases h; simp only [Mat] at m
    obtain ⟨a, c, rfl, hle, ha⟩ := m
    exact ends_pure (v := .int .i64 rc.len) (hd _ hu _ rfl) (by simp [Mat])
  · rename_i e hu
    cases h; simp only [Mat] at m; subst m
    exact ends_pure (v := .int .i64 0) (hd _ hu _ rfl) (by simp [Mat])
  · cases h
end
end Go.Proofs.YtkihnmpjpbfiaaaDoor.Ev
