/- What an operation does, by its abstract account: whichever it is. -/
import Derived.Test.YtkihnmpjpbfiaaaDoorEv11
set_option linter.unusedVariables false
set_option linter.unusedSimpArgs false
namespace Go.Proofs.YtkihnmpjpbfiaaaDoor.Ev
open Go

section
variable {P : Program} {E : Env} {η : Eta} {H : Nat → AB} {D : Nat → Prop} {w : World} {fid : Nat}

theorem map_array {ev : Operand → Value} (xs : Array Operand) : (xs.map ev).toList = xs.toList.map ev := by simp

theorem sdata_ok {ts : Array TypeId} {ty : TypeId} {x : AV} {v : Value} {r : R} (h : sdataA x fid = some r) (m : Mat E η x v) (hs : r.side) : Ends P E η H w fid r (Builtin.unsafeSliceData_ ts ty #[v]) := by
  unfold sdataA at h
  split at h
  · cases h
    simp only [Mat] at m
    obtain ⟨A, a, c, hA, h1, h2, rfl, h3⟩ := m
    have hs : 0 < _ := hs
    rw [h3 (by omega)]
    refine ends_pure (Lib.run_unsafeSliceData_row _ _ _ _ _ _ (by omega)) ?_
    simp only [Mat]
    exact ⟨A, _, hA, by omega, rfl, fun _ => by simp⟩
  · cases h
    simp only [Mat] at m; subst m
    exact ends_pure (Lib.run_unsafeSliceData_nil _ _ _ _ _) (by simp [Mat])
  · cases h

theorem ustr_ok (hH : Heap E η H D w) {l : List Nat} {t t2 ty : TypeId} {x y : AV} {v u : Value} {r : R} (h : ustrA P t x y (within H l) fid = some r) (m : Mat E η x v) (m' : Mat E η y u) (hs : r.side) :
    Ends P E η H w fid r (Builtin.unsafeString_ #[t, t2] ty #[v, u]) := by
  unfold ustrA at h
  split at h
  · rename_i id len i hi
    have e1 := avInt_ok hi m'
    subst e1
    split at h
    · rename_i e hu
      split at h
      · rename_i hce
        split at h
        · rename_i e' bs hcl
          split at h
          · rename_i he
            cases h
            obtain ⟨s0, rfl, s1, s2⟩ := hs
            simp only [Mat] at m
            obtain ⟨A, p, hA, hcap, rfl, hp⟩ := m
            rw [hp s0]
            obtain ⟨B, hB, hb, hlt⟩ := hH.hp id (live_of hcl rfl)
            rw [hA] at hB; cases hB
            rw [within_eq hcl rfl] at hb
            simp only [AN.v_l] at hcap
            obtain ⟨_, hb⟩ := hb
            have hpos : 0 < A.cap := by omega
            obtain ⟨cs, ty', fr, g1, g2, g3, g5, g9, g10⟩ := hb hpos
            obtain ⟨rfl, _⟩ := g9 e' rfl
            subst he
            have hoff := g10 (by simp)
            have hlen : (bs.take len.v).length = len.v := by simp; omega
            have hrun := Lib.run_unsafeString_row (P := P) w t t2 ty ty' hu hce A.blk cs.size (by simp [World.shape?, g1]) (bs.take len.v) (by intro e; rw [e] at hlen; simp at hlen; omega)
              (by rw [hlen]; simp only [RC.w] at g3; omega) (by rw [hlen]; omega) (fun j z hj => by
                have hz : bs[j]? = some z := by
                  rw [List.getElem?_take] at hj
                  split at hj
                  · exact hj
                  · cases hj
                have := g5 j (byteVal z) (by simp [RC.vals, hz])
                rw [hoff, Nat.zero_add] at this
                rw [add_eq, cell_of g1, Nat.zero_add]
                exact this)
            rw [hlen] at hrun
            refine ⟨_, _, η, by simpa [hoff] using hrun, ?_⟩
            have hfz : ∀ b, b ≠ A.blk → (w.freeze ⟨A.blk, 0, none⟩ len.v).heap[b]? = w.heap[b]? := fun b hb => by
              unfold World.freeze
              split
              · rfl
              · simp [Array.getElem?_modify, Ne.symm hb]
            have hsz : (w.freeze ⟨A.blk, 0, none⟩ len.v).heap.size = w.heap.size := by
              unfold World.freeze
              split <;> simp
            exact .set hA (live_of hcl rfl) hpos (hlt hpos).1 hsz hfz (by simp [BlkOk]) (by simp [Mat]) (bg_freeze _ _ _ _ (Bg.refl w))
          · cases h
        · cases h
      · cases h
    · cases h
  · rename_i hi
    have e1 := avInt_ok hi m'
    subst e1
    cases h
    simp only [Mat] at m; subst m
    exact ends_pure (Lib.run_unsafeString_none _ _ _ _ _) (by simp [Mat])
  · cases h

theorem opA_ok {sp : Specs} (hsp : SpecsOk P sp) (hH : Heap E η H D w) {o : Oper} {ρ : Tmp → AV} {a : Act} (hρ : ∀ t, Mat E η (ρ t) (a.tmps.getD t undef)) {r : R} (h : opA P sp o.op o.type ρ H fid = some r) (hs : r.side)
    (hN : ∀ id, fid ≤ id → id < r.nxt → η id = none) : OpOk P o a w fun v w' => ∃ η', Concl E η η' H w w' fid r v := by
  have hρ' : ∀ t, Mat E η (restr (tmpsOf o.op) ρ t) (a.tmps.getD t undef) := fun t => by
    unfold restr; split
    · exact hρ t
    · simp [Mat]
  have hm := rop_mat (E := E) (η := η) (a := a) hρ'
  unfold opA at h
  generalize hg : rop (restr (tmpsOf o.op) ρ) = ρ' at h hm
  generalize hl : footA sp o.op ρ' fid = l at h
  cases hop : o.op <;> rw [hop] at h <;> simp only [coreA] at h <;> try (cases h; done)
  case move x =>
    split at h
    · cases h
    · cases h
      exact opOk_ends (s := pure (a.eval x)) (by simp [execOp, hop]) (ends_pure (by simp) (hm x))
  case assign x =>
    split at h
    · cases h
    · cases h
      exact opOk_ends (s := pure (a.eval x)) (by simp [execOp, hop]) (ends_pure (by simp) (hm x))
  case pick c x y =>
    have hc := hm c
    have he : ∀ b, a.eval c = .bool b → OpOk P o a w (fun v w' => ∃ η', Concl E η η' H w w' fid r v) ∨ True := fun _ _ => .inr trivial
    split at h
    · rename_i e; rw [e] at hc; simp only [Mat] at hc
      cases h
      exact opOk_ends (s := pure (a.eval x)) (by simp [execOp, hop, hc, asBool]) (ends_pure (by simp) (hm x))
    · rename_i e; rw [e] at hc; simp only [Mat] at hc
      cases h
      exact opOk_ends (s := pure (a.eval y)) (by simp [execOp, hop, hc, asBool]) (ends_pure (by simp) (hm y))
    · rename_i b e; rw [e] at hc; simp only [Mat] at hc
      split at h
      · rename_i p q h1 h2
        cases h
        have e1 := avBool_ok h1 (hm x); have e2 := avBool_ok h2 (hm y)
        exact opOk_ends (s := pure (if b then a.eval x else a.eval y)) (by simp [execOp, hop, hc, asBool]) (ends_pure (v := if b then a.eval x else a.eval y) (by simp) (by cases b <;> simp [Mat, e1, e2]))
      · split at h
        · rename_i k p k' q h1 h2
          split at h
          · rename_i hk; subst hk
            cases h
            have e1 := avInt_ok h1 (hm x); have e2 := avInt_ok h2 (hm y)
            exact opOk_ends (s := pure (if b then a.eval x else a.eval y)) (by simp [execOp, hop, hc, asBool]) (ends_pure (v := if b then a.eval x else a.eval y) (by simp) (by cases b <;> simp [Mat, e1, e2]))
          · cases h
        · cases h
    · cases h
  case alloc t =>
    split at h
    · rename_i z hz
      cases h
      exact opOk_ends (by simp [execOp, hop]) (alloc_ok hz (hN fid (Nat.le_refl _) (Nat.lt_succ_self _)))
    · cases h
  case box t x =>
    have hx := hm x
    split at h
    · rename_i cl e; rw [e] at hx; simp only [Mat] at hx
      obtain ⟨cs, hv, mc⟩ := hx
      cases h
      exact opOk_ends (s := Instr.box t (a.eval x)) (by simp [execOp, hop]) (box_ok (by rw [hv]; exact mc) (hN fid (Nat.le_refl _) (Nat.lt_succ_self _)))
    · split at h
      · rename_i ho
        cases h
        refine opOk_ends (s := Instr.box t (a.eval x)) (by simp [execOp, hop]) (box_ok ?_ (hN fid (Nat.le_refl _) (Nat.lt_succ_self _)))
        rw [cells_one ho hx, matC_cons (one_not_vec ho)]
        exact ⟨_, [], rfl, one_ok ho hx, hx, by simp [MatC]⟩
      · cases h
  case build t parts =>
    split at h
    · rename_i hp
      split at h
      · rename_i z hz
        split at h
        · rename_i l' hf
          cases h
          obtain ⟨zv, hzv, mz, _⟩ := zeroOf_ok (E := E) (η := η) hz
          obtain ⟨cs, r1, r2⟩ := places_ok (w := w) hp mz (vals := parts.map fun (i, x) => (i, a.eval x)) hzv hf (by rw [Array.toList_map]; exact map_fst_eq _) (by rw [Array.toList_map]; exact map_snd_mat hm _)
          exact opOk_ends (s := Instr.build t (parts.map fun (i, x) => (i, a.eval x))) (by simp [execOp, hop]) (ends_pure r1 (by simp only [Mat]; exact ⟨cs, rfl, r2⟩))
        · cases h
      · cases h
    · cases h
  case buildSlice t len parts =>
    split at h
    · rename_i e hu
      split at h
      · rename_i hc
        split at h
        · rename_i z hz
          split at h
          · rename_i hw
            split at h
            · rename_i l' hf
              cases h
              exact opOk_ends (s := Instr.buildSlice t len (parts.map fun (i, x) => (i, a.eval x))) (by simp [execOp, hop])
                (buildSlice_ok hu hc.1 hc.2.2 hz hf (by rw [Array.toList_map]; exact map_fst_eq _) (by rw [Array.toList_map]; exact map_snd_mat hm _) hw (hN fid (Nat.le_refl _) (Nat.lt_succ_self _)))
            · cases h
          · cases h
        · cases h
      · cases h
    · cases h
  case load t x =>
    obtain ⟨v, r1, r2⟩ := loadA_ok hH h (hm x) hs
    exact opOk_ends (s := Instr.loadAt t (a.eval x)) (by simp [execOp, hop]) ⟨v, w, η, r1, r2⟩
  case store t x y =>
    split at h
    · rename_i hi
      obtain ⟨w', r1, r2⟩ := storeA_ok hH (info_of hi) h (hm x) (hm y) hs
      exact .inr (.inl ⟨w', by simp [execOp, hop, r1], η, r2⟩)
    · cases h
  case nilCheck x =>
    have hx := hm x
    have fin : ∀ (av : AV) (v : Value), a.eval x = v → Mat E η av v → (∀ A, v = .pointer (some A) → OpOk P o a w fun v w' => ∃ η', Concl E η η' H w w' fid ⟨True, av, [], fid⟩ v) := by
      rintro av v hv m A rfl
      exact opOk_ends (s := pure (.pointer (some A))) (by simp [execOp, hop, hv]) (ends_pure (by simp) m)
    split at h
    · rename_i e; rw [e] at hx; have hx' := hx; simp only [Mat] at hx; obtain ⟨A, _, hv⟩ := hx
      cases h; rw [hv] at hx'; exact fin _ _ hv hx' _ rfl
    · rename_i e; rw [e] at hx; have hx' := hx; simp only [Mat] at hx; obtain ⟨A, _, hv⟩ := hx
      cases h; rw [hv] at hx'; exact fin _ _ hv hx' _ rfl
    · rename_i e; rw [e] at hx; have hx' := hx; simp only [Mat] at hx; obtain ⟨A, _, hv⟩ := hx
      cases h; rw [hv] at hx'; exact fin _ _ hv hx' _ rfl
    · rename_i e; rw [e] at hx; have hx' := hx; simp only [Mat] at hx; obtain ⟨b, o', _, hv⟩ := hx
      cases h; rw [hv] at hx'; exact fin _ _ hv hx' _ rfl
    · rename_i g fs cs e; rw [e] at hx; have hx' := hx; simp only [Mat] at hx; obtain ⟨p, q, hv, _⟩ := hx
      cases h; rw [hv] at hx'
      exact opOk_ends (s := pure (.func (.func g) p q)) (by simp [execOp, hop, hv]) (ends_pure (by simp) hx')
    · cases h
  case binOp op t x y yt =>
    exact opOk_ends (s := do eqGuard op t x y (a.eval x) (a.eval y); binOp op t (a.eval x) (a.eval y)) (by simp [execOp, hop]) (binA_ok h (hm x) (hm y) hs)
  case unOp op t x =>
    exact opOk_ends (s := Op.unary op (a.eval x)) (by simp [execOp, hop]) (unA_ok h (hm x))
  case convert s d x =>
    exact opOk_ends (s := convert s d (a.eval x)) (by simp [execOp, hop]) (convA_ok hH h (hm x) hs hN)
  case makeFunc fn first captured =>
    cases fn <;> simp only at h <;> try (cases h; done)
    rename_i g
    cases h
    exact opOk_ends (s := Instr.makeFunc (.func g) (first.map a.eval) (captured.map a.eval)) (by simp [execOp, hop])
      (ends_pure (v := .func (.func g) (first.map a.eval) (captured.map a.eval)) (by simp [Instr.makeFunc])
        (by simp only [Mat]; exact ⟨_, _, rfl, by rw [Array.toList_map]; exact matL_map hm _, by rw [Array.toList_map]; exact matL_map hm _⟩))
  case makeSlice t x y =>
    exact opOk_ends (s := Instr.makeSlice t (a.eval x) (a.eval y)) (by simp [execOp, hop]) (makeSliceA_ok h (hm x) (hm y) hs hN)
  case slice t x lo hi mx =>
    cases mx <;> simp only at h <;> try (cases h; done)
    split at h
    · rename_i r' hr
      cases h
      exact opOk_ends (s := Instr.sliceAt t (a.eval x) (lo.map a.eval) (hi.map a.eval) none) (by simp [execOp, hop]) (sliceA_ok hr (hm x) (bound_ok hm lo) (bound_ok hm hi) hs)
    · exact opOk_ends (s := Instr.sliceAt t (a.eval x) (lo.map a.eval) (hi.map a.eval) none) (by simp [execOp, hop]) (sliceArrA_ok hH h (hm x) (bound_ok hm lo) (bound_ok hm hi) hs)
  case fieldAddr t x f =>
    have hx := hm x
    have key : ∀ {g : Field} {b o' : Nat} {av : AV}, fieldOf P t f = some g → 0 < P.cellsOf g.type → a.eval x = .pointer (some ⟨b, o', none⟩) → Mat E η av (.pointer (some ⟨b, o' + g.offset, none⟩)) →
        OpOk P o a w fun v w' => ∃ η', Concl E η η' H w w' fid ⟨True, av, [], fid⟩ v := by
      intro g b o' av hf h0 hv m
      have hinfo : ∃ i, P.info? g.type = some i := by
        unfold Program.cellsOf at h0
        cases hh : P.info? g.type with
        | none => simp [hh] at h0
        | some i => exact ⟨i, rfl⟩
      obtain ⟨i, hi⟩ := hinfo
      unfold fieldOf at hf
      split at hf
      · rename_i fs hu
        refine opOk_ends (s := Instr.fieldAt t (a.eval x) f) (by simp [execOp, hop]) (ends_pure ?_ m)
        have hne : ¬ P.cellsOf g.type = 0 := by omega
        simp [Instr.fieldAt, run_underlying' hu, hf, hv, Instr.sureAddr, fieldPlace, run_sizeOf' hi, hne, add_eq]
      · cases hf
    split at h
    · rename_i g id off hf e
      rw [e] at hx; simp only [Mat] at hx; obtain ⟨A, hA, hv⟩ := hx
      split at h
      · rename_i h0
        cases h
        exact key hf h0 hv (by simp only [Mat]; exact ⟨A, hA, by rw [Nat.add_assoc]⟩)
      · cases h
    · rename_i g id w' i o' hf e
      rw [e] at hx; simp only [Mat] at hx; obtain ⟨A, hA, hv⟩ := hx
      split at h
      · rename_i h0
        cases h
        exact key hf h0 hv (by simp only [Mat]; exact ⟨A, hA, by simp only [Nat.add_assoc]⟩)
      · cases h
    · rename_i g rc i o' hf e
      rw [e] at hx; simp only [Mat] at hx; obtain ⟨b, o'', hA, hv⟩ := hx
      split at h
      · rename_i h0
        cases h
        exact key hf h0 hv (by simp only [Mat]; exact ⟨b, o'', hA, by simp only [Nat.add_assoc]⟩)
      · cases h
    · cases h
  case field t x f =>
    have hx := hm x
    split at h
    · rename_i g cl hf e
      rw [e] at hx; simp only [Mat] at hx; obtain ⟨cs, hv, mc⟩ := hx
      split at h
      · rename_i av hp
        cases h
        obtain ⟨v, r1, r2⟩ := partA_value (w := w) hp mc
        unfold fieldOf at hf
        split at hf
        · rename_i fs hu
          refine opOk_ends (s := Instr.field t (a.eval x) f) (by simp [execOp, hop]) (ends_pure (v := v) ?_ r2)
          simp [Instr.field, run_underlying' hu, hf, hv, asAgg, r1]
        · cases hf
      · cases h
    · cases h
  case indexAddr t x y =>
    exact opOk_ends (s := Instr.indexAt t (a.eval x) (a.eval y)) (by simp [execOp, hop]) (indexAddrA_ok h (hm x) (hm y) hs)
  case index t x y =>
    split at h
    · rename_i hp
      exact opOk_ends (s := Instr.index t (a.eval x) (a.eval y)) (by simp [execOp, hop]) (indexA_ok h (hm x) (hm y) hs (fun n e hu => by
        rcases hp with hp | hp
        · simpa [placesOk, hu] using hp
        · simp [strT, hu] at hp))
    · cases h
  case range t x =>
    have hx := hm x
    split at h
    · rename_i s hu e
      rw [e] at hx; simp only [Mat] at hx
      cases h
      refine opOk_ends (s := Instr.range t (a.eval x)) (by simp [execOp, hop]) ⟨.pointer (some ⟨w.heap.size, 0, none⟩), { w with heap := w.heap.push (.stringIter s 0) }, _, ?_,
        .fresh (cap := 1) (hN fid (Nat.le_refl _) (Nat.lt_succ_self _)) rfl ⟨rfl, Nat.one_pos, by simp⟩ ?_⟩
      · simp [Instr.range, run_underlying' hu, hx]
      · simp only [Mat]; exact ⟨_, upd_same _ _ _, by simp⟩
    · cases h
  case next x b =>
    have hx := hm x
    cases b <;> simp only at h <;> try (cases h; done)
    split at h
    · rename_i id e
      rw [e] at hx; simp only [Mat] at hx
      obtain ⟨A, hA, hv⟩ := hx
      split at h
      · rename_i s pos hit
        cases h
        have hl := live_of hit rfl
        obtain ⟨B, hB, hb, hlt⟩ := hH.hp id hl
        rw [hA] at hB; cases hB
        rw [within_eq hit rfl] at hb
        obtain ⟨g0, g1, g2⟩ := hb
        have hget : (getObj A.blk).run P w = .ok (.stringIter s pos) w := by simp [getObj, Sem.run, g2]
        by_cases hp : pos < s.size
        · have hset : (setObj A.blk (.stringIter s (pos + (Utf8.decode s pos).2))).run P w = .ok () { w with heap := w.heap.setIfInBounds A.blk (.stringIter s (pos + (Utf8.decode s pos).2)) } := by
            simp [setObj, Sem.run, g2]
          refine opOk_ends (s := Instr.next (a.eval x) true o.type) (by simp [execOp, hop]) ⟨.tuple #[.bool true, .int .i64 pos, .int .i32 (Utf8.decode s pos).1], _, η, ?_,
            .set (w' := { w with heap := w.heap.setIfInBounds A.blk (.stringIter s (pos + (Utf8.decode s pos).2)) }) hA hl g1 (hlt g1).1 (by simp) (fun b hb => by simp [Ne.symm hb]) ⟨g0, g1, by simp [(hlt g1).1, hp]⟩ (by simp [Mat, hp])⟩
          rw [hv, g0]
          simp only [Instr.next, Sem.run_bind, hget, Result.andThen_ok, hp, if_true, hset, Sem.run_pure]
          rfl
        · refine opOk_ends (s := Instr.next (a.eval x) true o.type) (by simp [execOp, hop]) ⟨.tuple #[.bool false], w, η, ?_,
            .set hA hl g1 (hlt g1).1 rfl (fun _ _ => rfl) ⟨g0, g1, by simp [hp, g2]⟩ (by simp [Mat, hp])⟩
          rw [hv, g0]
          simp only [Instr.next, Sem.run_bind, hget, Result.andThen_ok, hp, if_false, Sem.run_pure]
      · cases h
    · cases h
  case extract x i =>
    have hx := hm x
    split at h
    · rename_i cl e
      rw [e] at hx; simp only [Mat] at hx
      obtain ⟨vs, hv, ml⟩ := hx
      split at h
      · cases h
      · rename_i av hi hne
        cases h
        obtain ⟨v, g1, g2⟩ := matL_get ml hne
        refine opOk_ends (s := Instr.extract (a.eval x) i) (by simp [execOp, hop]) (ends_pure (v := v) ?_ g2)
        have : vs[i]? = some v := by simpa using g1
        simp [Instr.extract, hv, this]
      · cases h
    · rename_i b pos q e
      rw [e] at hx; simp only [Mat] at hx
      split at h
      · cases h
        refine opOk_ends (s := Instr.extract (a.eval x) 0) (by simp [execOp, hop]) (ends_pure (v := .bool b) ?_ (by simp [Mat]))
        rw [hx]; cases b <;> simp [Instr.extract]
      · cases h
        refine opOk_ends (s := Instr.extract (a.eval x) 1) (by simp [execOp, hop]) (ends_pure (v := .int .i64 pos) ?_ (by simp [Mat]))
        have hs' : b = true := hs
        rw [hx, hs']; simp [Instr.extract]
      · cases h
        refine opOk_ends (s := Instr.extract (a.eval x) 2) (by simp [execOp, hop]) (ends_pure (v := .int .i32 q) ?_ (by simp [Mat]))
        have hs' : b = true := hs
        rw [hx, hs']; simp [Instr.extract]
      · cases h
    · cases h
  case call c =>
    obtain ⟨callee, args, argTypes⟩ := c
    cases callee with
    | invoke _ _ => simp only at h; cases h
    | builtin b =>
      simp only at h
      have ml : MatL E η (args.toList.map ρ') (args.toList.map a.eval) := matL_map hm _
      have hb : ∀ (s : Sem Value), (∀ cs, builtin b argTypes o.type cs (args.map a.eval) = (do pure (.value (← s)) : Sem Next)) → execOp a.eval o = (do pure (.value (← s)) : Sem Next) := by
        intro s hs
        simp only [execOp, hop, resolve, pure_bind, invoke]
        exact hs _
      have hargs : args.map a.eval = (args.toList.map a.eval).toArray := by apply Array.ext'; simp
      split at h
      · rename_i x t ha ht
        rw [ha] at ml
        simp only [MatL] at ml
        obtain ⟨v, r0, hvs, m1, rfl⟩ := ml
        refine opOk_ends (s := Builtin.len_ argTypes o.type #[v]) (hb _ fun cs => ?_) (lenA_ok (by
          have : argTypes.toList[0]? = some t := by rw [ht]; rfl
          simpa using this) h m1)
        rw [hargs, hvs]; rfl
      · rename_i x r0 _ ha
        rw [ha] at ml
        simp only [MatL] at ml
        obtain ⟨v, rs, hvs, m1, m2⟩ := ml
        split at h
        · rename_i z hz
          split at h
          · cases h
            obtain ⟨q, r1, r2⟩ := fold_ok (P := P) (w := w) (g := Builtin.min2) (fun hh ma mb => by obtain ⟨r, e1, e2, _⟩ := min2_ok hh ma mb; exact ⟨r, e1, e2⟩) hz m2 m1
            refine opOk_ends (s := Builtin.min_ argTypes o.type (args.map a.eval)) (hb _ fun cs => rfl) (ends_pure (v := q) ?_ r2)
            rw [hargs, hvs]; exact r1
          · cases h
        · cases h
      · rename_i x r0 _ ha
        rw [ha] at ml
        simp only [MatL] at ml
        obtain ⟨v, rs, hvs, m1, m2⟩ := ml
        split at h
        · rename_i z hz
          split at h
          · cases h
            obtain ⟨q, r1, r2⟩ := fold_ok (P := P) (w := w) (g := Builtin.max2) (fun hh ma mb => max2_ok hh ma mb) hz m2 m1
            refine opOk_ends (s := Builtin.max_ argTypes o.type (args.map a.eval)) (hb _ fun cs => rfl) (ends_pure (v := q) ?_ r2)
            rw [hargs, hvs]; exact r1
          · cases h
        · cases h
      · rename_i s x t t2 ha ht
        rw [ha] at ml
        simp only [MatL] at ml
        obtain ⟨v, r0, hvs, m1, u, r1, rfl, m2, rfl⟩ := ml
        have hat : argTypes = #[t, t2] := by apply Array.ext'; rw [ht]
        refine opOk_ends (s := Builtin.append_ argTypes o.type #[v, u]) (hb _ fun cs => ?_) (by rw [hat]; exact appendA_ok hH h m1 m2 hs hN)
        rw [hargs, hvs]; rfl
      · rename_i x ha
        rw [ha] at ml
        simp only [MatL] at ml
        obtain ⟨v, r0, hvs, m1, rfl⟩ := ml
        refine opOk_ends (s := Builtin.unsafeSliceData_ argTypes o.type #[v]) (hb _ fun cs => ?_) (sdata_ok h m1 hs)
        rw [hargs, hvs]; rfl
      · rename_i x y t t2 ha ht
        rw [ha] at ml
        simp only [MatL] at ml
        obtain ⟨v, r0, hvs, m1, u, r1, rfl, m2, rfl⟩ := ml
        have hat : argTypes = #[t, t2] := by apply Array.ext'; rw [ht]
        refine opOk_ends (s := Builtin.unsafeString_ argTypes o.type #[v, u]) (hb _ fun cs => ?_) (by rw [hat]; exact ustr_ok hH h m1 m2 hs)
        rw [hargs, hvs]; rfl
      · cases h
    | value f =>
      simp only at h
      split at h
      · rename_i g as hc
        split at h
        · rename_i s hg'
          have hf := hm f
          unfold calleeA at hc
          split at hc
          · rename_i g' first captured e
            split at hc
            · cases hc
            rename_i hy
            cases hc
            rw [e] at hf; simp only [Mat] at hf
            obtain ⟨fa, ca, hv, m1, m2⟩ := hf
            have hs1 := hsp g s hg'
            rw [if_neg hy] at hs1
            have ml : MatL E η (first ++ args.toList.map ρ' ++ captured) (fa ++ args.map a.eval ++ ca).toList := by
              simp only [Array.toList_append, Array.toList_map]
              exact matL_append (matL_append m1 (matL_map hm _)) m2
            have hl2 : l = s.foot (first ++ args.toList.map ρ' ++ captured) fid := by
              rw [← hl, hop]; simp [footA, calleeA, e, hg', hy]
            rw [hl2] at h
            rcases hs1 with ⟨hok, fn, b, hfn, hbody, hname⟩ | hext
            case inr =>
              obtain ⟨v, w', h1, h2⟩ := hext E η H D w fid _ _ r ml hH h hN hs
              refine .inl ⟨v, w', ?_, h2⟩
              rw [← h1]
              simp [execOp, hop, resolve, hv, Deferred.ofValue, invoke]
            refine .inr (.inr (.inl ⟨g, fa ++ args.map a.eval ++ ca, ?_, hok E η H D w fid _ _ r ml hH h hN hs⟩))
            have hname' : ¬ fn.name = "runtime.NumGoroutine" := by simpa using hname
            simp [execOp, hop, resolve, hv, Deferred.ofValue, invoke, callFunc, hfn, hname', hbody]
          · rename_i id e
            cases hc
            rw [e] at hf; simp only [Mat] at hf
            obtain ⟨A, hA, hv⟩ := hf
            have hs1 := hsp _ s hg'
            rw [if_pos rfl] at hs1
            have ml : MatL E η (args.toList.map ρ') (args.map a.eval).toList := by
              simp only [Array.toList_map]
              exact matL_map hm _
            have hl2 : l = s.foot (.yl id :: args.toList.map ρ') fid := by
              rw [← hl, hop]; simp [footA, calleeA, e, hg']
            rw [hl2] at h
            obtain ⟨f', tmps, asg, body, h1, h2⟩ := hs1 E η H D w fid id A _ _ r hA ml hH h hN hs
            refine .inr (.inr (.inr ⟨A.blk, f', tmps, asg, body, ?_, h2⟩))
            rw [← h1]
            simp [execOp, hop, resolve, hv, Deferred.ofValue, invoke]
          · cases hc
        · cases h
      · cases h
end
end Go.Proofs.YtkihnmpjpbfiaaaDoor.Ev
