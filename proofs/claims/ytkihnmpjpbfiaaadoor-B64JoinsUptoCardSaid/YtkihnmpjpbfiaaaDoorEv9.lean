/- What an operation does, by its abstract account: elements' addresses, parts, aggregates, new memory. -/
import Derived.Test.YtkihnmpjpbfiaaaDoorEv8
set_option linter.unusedVariables false
set_option linter.unusedSimpArgs false
namespace Go.Proofs.YtkihnmpjpbfiaaaDoor.Ev
open Go

section
variable {P : Program} {E : Env} {η : Eta} {H : Nat → AB} {D : Nat → Prop} {w : World} {fid : Nat}

theorem info_of {t : TypeId} (h : infoOk P t = true) : ∃ i, P.info? t = some i := Option.isSome_iff_exists.1 h

theorem run_indexAt_arr {t e : TypeId} {n : Nat} {i : TypeInfo} {b o : Nat} {k : IntKind} {j : Int} (hu : P.underlying t = some (.array n e)) (hi : P.info? e = some i) (h0 : 0 ≤ j) (h1 : j < n) :
    (Instr.indexAt t (.pointer (some ⟨b, o, none⟩)) (.int k j)).run P w = .ok (.pointer (some ⟨b, o + j.toNat * P.cellsOf e, none⟩)) w := by
  simp only [Instr.indexAt, asIntOf, Sem.run_bind, Sem.run_pure, Result.andThen_ok, run_underlying' hu, Instr.sureAddr]
  rw [if_pos ⟨h0, h1⟩]
  simp [run_sizeOf' hi, add_eq]

theorem run_indexAt_slice {t e : TypeId} {n c : Nat} {i : TypeInfo} {b o : Nat} {k : IntKind} {j : Int} (hu : P.underlying t = some (.slice e)) (hi : P.info? e = some i) (h0 : 0 ≤ j) (h1 : j < n) :
    (Instr.indexAt t (.slice (some ⟨b, o, none⟩) n c) (.int k j)).run P w = .ok (.pointer (some ⟨b, o + j.toNat * P.cellsOf e, none⟩)) w := by
  simp only [Instr.indexAt, asIntOf, Sem.run_bind, Sem.run_pure, Result.andThen_ok, run_underlying' hu]
  rw [if_pos ⟨h0, h1⟩]
  simp [run_sizeOf' hi, add_eq]

theorem indexAddrA_ok {l : List Nat} {t : TypeId} {x ix : AV} {v u : Value} {r : R} (h : indexAddrA P t x ix (within H l) fid = some r) (m : Mat E η x v) (m' : Mat E η ix u) (hs : r.side) :
    Ends P E η H w fid r (Instr.indexAt t v u) := by
  unfold indexAddrA at h
  split at h
  · rename_i n e id off hu
    simp only [Mat] at m
    obtain ⟨A, hA, rfl⟩ := m
    split at h
    · rename_i k j
      split at h
      · rename_i hc
        obtain ⟨i, hi⟩ := info_of hc.2.2
        cases h
        simp only [Mat] at m'; subst m'
        exact ends_pure (run_indexAt_arr hu hi hc.1 hc.2.1) (by simp only [Mat]; exact ⟨A, hA, by rw [Nat.add_assoc]⟩)
      · cases h
    · rename_i k j
      split at h
      · rename_i hc
        obtain ⟨i, hi⟩ := info_of hc.2
        cases h
        simp only [Mat] at m'; subst m'
        exact ends_pure (run_indexAt_arr hu hi hs.1 hs.2) (by simp only [Mat]; exact ⟨A, hA, by rw [hc.1, Nat.mul_one, Nat.add_assoc]⟩)
      · cases h
    · cases h
  · rename_i e id w' lo len hu
    simp only [Mat] at m
    obtain ⟨A, a, c, hA, hle, hcA, rfl, ha⟩ := m
    split at h
    · rename_i hc
      obtain ⟨i, hi⟩ := info_of hc.2
      have main : ∀ (k : IntKind) (j : Int) (av : AV), u = .int k j → 0 ≤ j → j < len.v → Mat E η av (.pointer (some ⟨A.blk, A.off + (lo.v * w' + j.toNat * w'), none⟩)) →
          ∀ p : Prop, Ends P E η H w fid ⟨p, av, [], fid⟩ (Instr.indexAt t (.slice a len.v c) u) := by
        rintro k j av rfl h0 h1 hm p
        rw [ha (by omega)]
        refine ends_pure (run_indexAt_slice hu hi h0 h1) ?_
        rw [hc.1, Nat.add_assoc]; exact hm
      split at h
      · cases h
        simp only [Mat] at m'
        exact main _ _ _ m' hs.1 hs.2 (by simp only [Mat]; exact ⟨A, hA, by simp⟩) _
      · split at h
        · rename_i hw1
          cases h
          simp only [Mat] at m'
          exact main _ _ _ m' hs.1 hs.2 (by simp only [Mat]; exact ⟨A, hA, by simp [hw1]⟩) _
        · cases h
      · split at h
        · rename_i hw1
          cases h
          simp only [Mat] at m'
          exact main _ _ _ m' hs.1 hs.2 (by simp only [Mat]; exact ⟨A, hA, by simp [hw1]⟩) _
        · cases h
      · cases h
        simp only [Mat] at m'
        exact main _ _ _ m' hs.1 hs.2 (by simp only [Mat]; exact ⟨A, hA, by simp [Nat.add_mul]⟩) _
      · cases h
        simp only [Mat] at m'
        exact main _ _ _ m' hs.1 hs.2 (by simp only [Mat]; exact ⟨A, hA, by simp [Nat.add_mul]⟩) _
      · cases h
    · cases h
  · rename_i e rc hu
    simp only [Mat] at m
    obtain ⟨a, c, rfl, hle, ha⟩ := m
    split at h
    · rename_i hc
      obtain ⟨i, hi⟩ := info_of hc.2
      split at h
      · rename_i k j hj
        cases h
        have e1 := avInt_ok hj m'; subst e1
        obtain ⟨s1, s2⟩ := hs
        obtain ⟨b, o, rfl, hx⟩ := ha (by omega)
        exact ends_pure (run_indexAt_slice hu hi s1 s2) (by simp only [Mat]; exact ⟨b, o, hx, by rw [hc.1]; simp⟩)
      · cases h
    · cases h
  · cases h

/-- A part of an aggregate that is at hand. -/
theorem partA_value {t : TypeId} {l : List AV} {off : Nat} {a : AV} {cs : Array Value} (h : partA P t l off = some a) (m : MatC E η l cs.toList) :
    ∃ v, (part t cs off).run P w = .ok v w ∧ Mat E η a v := by
  unfold partA at h
  split at h
  · rename_i ht
    split at h
    · rename_i x r h1
      split at h
      · rename_i x' r' h2
        cases h
        obtain ⟨a1, _, a3, _⟩ := takeW_ok h1 m
        obtain ⟨b1, b2, _, _⟩ := takeW_ok h2 a3
        have hl : off + P.cellsOf t ≤ cs.size := by simp at a1 b1; omega
        refine ⟨_, run_part ht rfl (by simp) hl, ?_⟩
        simp only [asVal, ht, Mat]; exact ⟨_, rfl, by simpa using b2⟩
      · cases h
    · cases h
  · rename_i ht
    obtain ⟨v, g1, _, g3⟩ := cellAt_ok h m
    refine ⟨v, ?_, g3⟩
    have : cs[off]? = some v := by simpa using g1
    simp [part, run_isAgg ht, this]
  · cases h

theorem indexA_ok {t : TypeId} {x ix : AV} {v u : Value} {r : R} (h : indexA P t x ix fid = some r) (m : Mat E η x v) (m' : Mat E η ix u) (hs : r.side) (hI : ∀ n e, P.underlying t = some (.array n e) → infoOk P e = true) :
    Ends P E η H w fid r (Instr.index t v u) := by
  unfold indexA at h
  split at h
  · rename_i s k j hu hj
    cases h
    have e1 := avInt_ok hj m'; subst e1
    simp only [Mat] at m; subst m
    obtain ⟨s1, s2⟩ := hs
    have hlt : j.toNat < s.data.toList.length := by
      have : s.data.toList.length = s.size := by simp
      omega
    refine ends_pure (v := .int .u8 ((bytesOf s).getD j.toNat 0).toNat) ?_ (by simp [Mat])
    simp only [Instr.index, asIntOf, Sem.run_bind, Sem.run_pure, Result.andThen_ok, run_underlying' hu]
    rw [if_pos s1]
    have e2 : s[j.toNat]? = some ((bytesOf s).getD j.toNat 0) := by
      simp only [bytesOf, List.getD_eq_getElem?_getD, List.getElem?_eq_getElem hlt, Option.getD_some]
      rw [getElem?_pos s j.toNat (by simpa using hlt)]
      rfl
    simp [e2]
  · rename_i n e l k j hu hj
    have e1 := avInt_ok hj m'; subst e1
    simp only [Mat] at m
    obtain ⟨cs, rfl, mc⟩ := m
    obtain ⟨i, hi⟩ := info_of (hI n e hu)
    split at h
    · split at h
      · rename_i hc
        split at h
        · rename_i a ha
          cases h
          obtain ⟨v, g1, g2⟩ := partA_value (w := w) ha mc
          refine ends_pure (v := v) ?_ g2
          simp only [Instr.index, asIntOf, Sem.run_bind, Sem.run_pure, Result.andThen_ok, run_underlying' hu]
          rw [if_pos hc]
          simp [run_sizeOf' hi, g1]
        · cases h
      · cases h
    · split at h
      · rename_i k' m' xs ht
        split at h
        · rename_i hc
          cases h
          simp only [MatC] at mc
          obtain ⟨e1, r', e2, rfl⟩ := mc
          refine ends_pure (v := .int k' (xs.getD j.toNat 0)) ?_ (by simp [Mat])
          simp only [Instr.index, asIntOf, Sem.run_bind, Sem.run_pure, Result.andThen_ok, run_underlying' hu]
          rw [if_pos hs]
          have hlt : j.toNat < xs.length := by obtain ⟨s1, s2⟩ := hs; omega
          have e3 : cs[j.toNat]? = some (.int k' (xs.getD j.toNat 0)) := by
            have : cs[j.toNat]? = cs.toList[j.toNat]? := by simp
            rw [this, e2, List.append_nil]
            simp [hlt]
          simp [run_sizeOf' hi, part, run_isAgg ht, hc.1, e3]
        · cases h
      · cases h
  · cases h

/-! ### Zero values -/
theorem ofVal_mat (v : Value) : Mat E η (ofVal v) v := by
  unfold ofVal
  split <;> simp [Mat]

theorem zerosN_ok {k : IntKind} : ∀ {n : Nat} {l l' : List Value}, zerosN k n l = some l' → l = (List.replicate n (0 : Int)).map (Value.int k) ++ l'
  | 0, l, l', h => by simp only [zerosN] at h; cases h; simp
  | n + 1, l, l', h => by
    unfold zerosN at h
    split at h
    · rename_i heq; cases heq
    · rename_i n' k' r heq
      cases heq
      split at h
      · rename_i hk; subst hk
        rw [zerosN_ok h]; simp [List.replicate_succ]
      · cases h
    · cases h

theorem group_ok : ∀ (s : List Shape) {vs : List Value} {l : List AV}, group s vs = some l → MatC E η l vs
  | [], [], l, h => by simp only [group] at h; cases h; simp [MatC]
  | [], _ :: _, l, h => by simp [group] at h
  | .one :: s, [], l, h => by simp [group] at h
  | .one :: s, v :: vs, l, h => by
    simp only [group] at h
    split at h
    · rename_i h1
      split at h
      · rename_i r hr
        cases h
        rw [matC_cons (by unfold ofVal; split <;> simp)]
        exact ⟨v, vs, rfl, h1, ofVal_mat v, group_ok s hr⟩
      · cases h
    · cases h
  | .vec k n :: s, vs, l, h => by
    have h' : (match zerosN k n vs with
      | some l' => match group s l' with
        | some r => some (AV.vec k n (List.replicate n 0) :: r)
        | none => none
      | none => none) = some l := by
      cases vs <;> exact h
    split at h'
    · rename_i l' hz
      split at h'
      · rename_i r hr
        cases h'
        simp only [MatC]
        exact ⟨by simp, l', zerosN_ok hz, group_ok s hr⟩
      · cases h'
    · cases h'

theorem zeroOf_ok {t : TypeId} {l : List AV} (h : zeroOf P t = some l) : ∃ z, (∀ w, (zeroValue t).run P w = .ok z w) ∧ MatC E η l z.cells.toList ∧ ∃ i, P.info? t = some i := by
  unfold zeroOf at h
  split at h
  · rename_i z hz
    rw [Option.bind_eq_some_iff] at hz
    obtain ⟨i, hi, hz⟩ := hz
    exact ⟨z, fun w => by simp [zeroValue, typeInfo, hi, hz], group_ok _ h, i, hi⟩
  · cases h

theorem run_newVar (t : TypeId) (v : Value) : (newVar t v).run P w = .ok ⟨w.heap.size, 0, none⟩ { w with heap := w.heap.push (.cells v.cells t) } := by
  simp [newVar, newRow]

theorem new_cells {l : List AV} {t : TypeId} {v : Value} {cs : Array Value} {av : AV} {w' : World} {p : Prop} (hη : η fid = none) (m : MatC E η l cs.toList)
    (hh : w'.heap = w.heap.push (.cells cs t)) (hm : Mat E (upd η fid ⟨w.heap.size, 0, cs.size + 1⟩) av v) (hg : Bg w w' := by exact ⟨rfl, rfl, rfl⟩) :
    Concl E η (upd η fid ⟨w.heap.size, 0, cs.size + 1⟩) H w w' fid ⟨p, av, [(fid, .cells (some t) l)], fid + 1⟩ v :=
  .fresh (cap := cs.size + 1) hη hh ⟨rfl, cs, t, (0, 0), by rw [hh, Array.getElem?_push_size], ⟨.inl (Nat.le_refl _), Nat.le_succ _, Nat.succ_pos _⟩, m, tyOk_some⟩ hm hg

theorem alloc_ok {t : TypeId} {l : List AV} (h : zeroOf P t = some l) (hη : η fid = none) :
    Ends P E η H w fid ⟨True, .p fid 0, [(fid, .cells (some t) l)], fid + 1⟩ (Instr.alloc t true (.tuple #[])) := by
  obtain ⟨z, hz, mz, _⟩ := zeroOf_ok (E := E) (η := η) h
  refine ⟨.pointer (some ⟨w.heap.size, 0, none⟩), { w with heap := w.heap.push (.cells z.cells t) }, _, ?_, new_cells hη mz rfl ?_⟩
  · simp [Instr.alloc, hz, run_newVar]
  · simp only [Mat]; exact ⟨_, upd_same _ _ _, by simp⟩

theorem box_ok {t : TypeId} {l : List AV} {v : Value} (m : MatC E η l v.cells.toList) (hη : η fid = none) :
    Ends P E η H w fid ⟨True, .p fid 0, [(fid, .cells (some t) l)], fid + 1⟩ (Instr.box t v) := by
  refine ⟨.pointer (some ⟨w.heap.size, 0, none⟩), { w with heap := w.heap.push (.cells v.cells t) }, _, ?_, new_cells hη m rfl ?_⟩
  · simp [Instr.box, run_newVar]
  · simp only [Mat]; exact ⟨_, upd_same _ _ _, by simp⟩

/-! ### Aggregates out of parts -/
theorem foldl_set (new : List Value) : ∀ (cs : List Value) (off k : Nat), off + k + new.length ≤ cs.length →
    (new.zipIdx k).foldl (fun (cs : Array Value) (x : Value × Nat) => cs.setIfInBounds (off + x.2) x.1) cs.toArray = (cs.take (off + k) ++ new ++ cs.drop (off + k + new.length)).toArray := by
  induction new with
  | nil => intro cs off k _; simp
  | cons v new ih =>
    intro cs off k h
    simp only [List.length_cons] at h
    rw [List.zipIdx_cons, List.foldl_cons]
    have e : (cs.toArray.setIfInBounds (off + k) v) = (cs.set (off + k) v).toArray := by simp
    simp only [e]
    rw [ih (cs.set (off + k) v) off (k + 1) (by simp; omega)]
    congr 1
    have hlt : off + k < cs.length := by omega
    rw [show off + (k + 1) = off + k + 1 by omega, List.take_add_one, List.getElem?_set_self hlt, List.take_set_of_le (Nat.le_refl _), List.drop_set_of_lt (by omega)]
    simp [Nat.add_assoc, Nat.add_comm 1]

theorem fillA_ok {place : Nat → Option (Nat × Nat)} : ∀ {parts : List (Nat × AV)} {vals : List (Nat × Value)} {cells l : List AV} {cs : Array Value}, fillA place cells parts = some l → MatC E η cells cs.toList →
    parts.map (·.1) = vals.map (·.1) → MatL E η (parts.map (·.2)) (vals.map (·.2)) → ∃ cs', Instr.fill place cs vals = some cs' ∧ MatC E η l cs'.toList
  | [], vals, cells, l, cs, h, m, e, ml => by
    simp only [fillA] at h; cases h
    obtain rfl : vals = [] := by cases vals <;> simp at e ⊢
    exact ⟨cs, rfl, m⟩
  | (i, v) :: rest, vals, cells, l, cs, h, m, e, ml => by
    cases vals with
    | nil => simp at e
    | cons x vals =>
      obtain ⟨i', u⟩ := x
      simp only [List.map_cons, List.cons.injEq] at e
      obtain ⟨rfl, e⟩ := e
      simp only [List.map_cons, MatL] at ml
      obtain ⟨u', r', h0, mu, ml⟩ := ml
      cases h0
      simp only [fillA] at h
      split at h
      · cases h
      · rename_i off size hp
        have step : ∀ (c : List AV) (ns : List Value), u.cells.toList = ns → ns.length = size → fillA place c rest = some l → off + size ≤ cs.toList.length → MatC E η c (cs.toList.take off ++ ns ++ cs.toList.drop (off + size)) →
            ∃ cs', Instr.fill place cs ((i, u) :: vals) = some cs' ∧ MatC E η l cs'.toList := by
          intro c ns e1 e2 hf hle mc
          have hsz : u.cells.size = size := by rw [← e2, ← e1]; simp
          simp only [Instr.fill, hp]
          rw [if_neg (by rw [hsz]; simp at hle ⊢; omega)]
          have e3 : u.cells.zipIdx.foldl (fun (cs : Array Value) (x : Value × Nat) => cs.setIfInBounds (off + x.2) x.1) cs = (cs.toList.take off ++ ns ++ cs.toList.drop (off + size)).toArray := by
            have := foldl_set ns cs.toList off 0 (by rw [e2]; simpa using hle)
            simp only [Array.toArray_toList, Nat.add_zero, e2] at this
            rw [← this, ← Array.foldl_toList, Array.toList_zipIdx, e1]
          have e4 : (u.cells.zipIdx.foldl (fun cs (c, j) => cs.setIfInBounds (off + j) c) cs) = (cs.toList.take off ++ ns ++ cs.toList.drop (off + size)).toArray := e3
          rw [e4]
          exact fillA_ok hf (by simpa using mc) e ml
        split at h
        · rename_i new
          simp only [Mat] at mu
          obtain ⟨ns, rfl, mn⟩ := mu
          split at h
          · rename_i hw
            split at h
            · rename_i c hc
              obtain ⟨g1, g2⟩ := setSeg_ok hc m mn
              have hl := matC_length mn
              exact step c ns.toList rfl (by rw [hl, hw]) h g1 g2
            · cases h
          · cases h
        · split at h
          · rename_i hw
            obtain ⟨rfl, ho⟩ := hw
            split at h
            · rename_i c hc
              obtain ⟨g1, g2⟩ := setAt_ok hc m mu
              refine step c [u] (by rw [cells_one ho mu]) rfl h (by omega) ?_
              have : cs.toList.take off ++ [u] ++ cs.toList.drop (off + 1) = cs.toList.set off u := by
                rw [List.set_eq_take_append_cons_drop, if_pos g1]; simp
              rw [this]; exact g2
            · cases h
          · cases h
end
end Go.Proofs.YtkihnmpjpbfiaaaDoor.Ev
