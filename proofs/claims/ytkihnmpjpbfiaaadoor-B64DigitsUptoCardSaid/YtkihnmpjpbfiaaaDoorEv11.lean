/- What an operation does, by its abstract account: all of them together. -/
import Derived.Test.YtkihnmpjpbfiaaaDoorEv10
set_option linter.unusedVariables false
set_option linter.unusedSimpArgs false
namespace Go.Proofs.YtkihnmpjpbfiaaaDoor.Ev
open Go

section
variable {P : Program} {E : Env} {η : Eta} {H : Nat → AB} {D : Nat → Prop} {w : World} {fid : Nat}

/-- The one cell of the zero value of a type. -/
def zeroIs (P : Program) (e : TypeId) (z : Value) : Prop := ∃ i, P.info? e = some i ∧ i.zero = some z ∧ z.cells = #[z]

theorem run_makeSlice {t e : TypeId} {k k' : IntKind} {l c : Int} {z : Value} (hu : P.underlying t = some (.slice e)) (hz : zeroIs P e z) (hc1 : P.cellsOf e = 1) (h0 : 0 ≤ l) (h1 : l ≤ c) (h2 : c < 2 ^ 62) (h3 : P.bytesOf e * c ≤ 2 ^ 47) :
    ∃ w', (Instr.makeSlice t (.int k l) (.int k' c)).run P w = .ok (.slice (some ⟨w.heap.size, 0, none⟩) l.toNat c.toNat) w' ∧ w'.heap = w.heap.push (.cells (Array.replicate c.toNat z) e) ∧ Bg w w' := by
  obtain ⟨i, hi, hiz, hzc⟩ := hz
  have hb : P.bytesOf e = i.bytes := by simp [Program.bytesOf, hi]
  have hsz : P.cellsOf e = i.size := by simp [Program.cellsOf, hi]
  rw [hb] at h3; rw [hsz] at hc1
  have wl : IntKind.i64.wrap l = l := by simp [IntKind.wrap, IntKind.bits, IntKind.signed]; omega
  have wc : IntKind.i64.wrap c = c := by simp [IntKind.wrap, IntKind.bits, IntKind.signed]; omega
  refine ⟨w.alloc (.cells (Array.replicate c.toNat z) e), ?_, rfl, ⟨rfl, rfl, rfl⟩⟩
  have t1 : ¬ c < 0 := by omega
  have t2 : ¬ ((i.bytes : Int) * c > 2 ^ 48) := by omega
  have t3 : ¬ l < 0 := by omega
  have t4 : ¬ l > c := by omega
  have hmap : ∀ n : Nat, (Array.range n).map (fun j => (#[z] : Array Value)[j % 1]!) = Array.replicate n z := by
    intro n
    apply Array.ext
    · simp
    · intro j h1 h2; simp [Nat.mod_one]
  unfold Instr.makeSlice
  simp only [Sem.run_bind, run_underlying' hu, Result.andThen_ok, asInt, asIntOf, Sem.run_pure, typeInfo, run_program, hi, wl, wc]
  simp only [t1, t2, t3, t4, decide_false, Bool.or_false, Bool.false_eq_true, if_false, Sem.run_bind, run_askRoom, Result.andThen_ok, sizeOf, typeInfo, run_program, hi, Sem.run_pure, hc1, Nat.mul_one]
  by_cases hn : c.toNat = 0
  · simp only [hn, if_true, Sem.run_pure, Sem.run_bind, Result.andThen_ok, newRow, run_newObj]
    simp
    rw [show (Array.map (fun x : Nat => (default : Value)) (Array.range 0)) = #[] from by apply Array.ext <;> simp]
  · simp only [hn, if_false, zeroValue, typeInfo, Sem.run_bind, run_program, Result.andThen_ok, hi, hiz, Sem.run_pure, hzc, newRow, run_newObj]
    rw [show (#[z] : Array Value).size = 1 from rfl, hmap]
    rfl

theorem makeSliceA_ok {t : TypeId} {x y : AV} {v u : Value} {r : R} (h : makeSliceA P t x y fid = some r) (m : Mat E η x v) (m' : Mat E η y u) (hs : r.side)
    (hN : ∀ id, fid ≤ id → id < r.nxt → η id = none) : Ends P E η H w fid r (Instr.makeSlice t v u) := by
  unfold makeSliceA at h
  split at h
  · rename_i e hu
    split at h
    · rename_i kind k l k' c hk hl hc
      have e1 := avInt_ok hl m; have e2 := avInt_ok hc m'
      subst e1; subst e2
      simp only at h
      split at h
      · rename_i hc1
        have hx : (anOf x l).v = l.toNat := by
          unfold anOf
          split
          · simp only [avInt?] at hl; cases hl; rfl
          · rfl
        have main : ∀ (rc : RC) (z : Value), rc.w = 1 → rc.len = l.toNat → rc.vals = List.replicate l.toNat z → zeroIs P e z → (0 ≤ l ∧ l ≤ c ∧ c < 2 ^ 62 ∧ P.bytesOf e * c ≤ 2 ^ 47) →
            (∀ id, fid ≤ id → id < fid + 1 → η id = none) →
            ∀ p : Prop, Ends P E η H w fid ⟨p, .s fid 1 (.l 0) (anOf x l), [(fid, .row (some e) rc)], fid + 1⟩ (Instr.makeSlice t (.int k l) (.int k' c)) := by
          intro rc z g1 g2 g3 hz ⟨s1, s2, s3, s4⟩ hN p
          obtain ⟨w', r1, r2, r3⟩ := run_makeSlice (w := w) (k := k) (k' := k') hu hz hc1.1 s1 s2 s3 s4
          refine ⟨_, w', _, r1, .fresh (cap := c.toNat) (hN fid (Nat.le_refl _) (Nat.lt_succ_self _)) r2 ⟨by rw [g2]; show l.toNat ≤ c.toNat; omega, fun _ => ⟨_, _, _, by rw [r2, Array.getElem?_push_size], .inl (Nat.le_refl _), ?_, ?_, tyOk_some, fun _ => rfl⟩⟩ ?_ r3⟩
          · simp [g1]
          · intro j q hj
            rw [g3] at hj
            have hlt : j < l.toNat := by have := (List.getElem?_eq_some_iff.1 hj).1; simpa using this
            rw [List.getElem?_replicate_of_lt hlt] at hj
            cases hj
            simp only [Nat.zero_add]
            rw [Array.getElem?_replicate, if_pos (by omega)]
          · simp only [Mat]
            exact ⟨_, _, c.toNat, upd_same _ _ _, by rw [hx]; omega, by simp, by rw [hx], by simp⟩
        have hzk := hc1.2
        unfold zeroKind at hzk
        split at h
        · cases h
          split at hzk
          · rename_i hz0 hk0
            rw [Option.bind_eq_some_iff] at hz0
            obtain ⟨i, hi, hz⟩ := hz0
            exact main _ (.int .u8 0) rfl (by simp [RC.len]) (by simp [RC.vals, byteVal]) ⟨i, hi, hz, rfl⟩ hs hN _
          · rename_i hk0; cases hk0
          · rename_i hk0; cases hk0
          · cases hzk
        · cases h
          split at hzk
          · rename_i hk0; cases hk0
          · rename_i hz0 hk0
            cases hk0
            obtain rfl := beq_iff_eq.1 hzk
            rw [Option.bind_eq_some_iff] at hz0
            obtain ⟨i, hi, hz⟩ := hz0
            exact main _ (.int _ 0) rfl (by simp [RC.len]) (by simp [RC.vals]) ⟨i, hi, hz, rfl⟩ hs hN _
          · rename_i hk0; cases hk0
          · cases hzk
        · cases h
          split at hzk
          · rename_i hk0; cases hk0
          · rename_i hk0; cases hk0
          · rename_i s0 _ hz0 hk0
            rw [Option.bind_eq_some_iff] at hz0
            obtain ⟨i, hi, hz⟩ := hz0
            have hs0 : s0 = .empty := by
              obtain ⟨⟨l0⟩⟩ := s0
              simp at hzk; subst hzk; rfl
            subst hs0
            exact main _ (.string .empty) rfl (by simp [RC.len]) (by simp [RC.vals]) ⟨i, hi, hz, rfl⟩ hs hN _
          · cases hzk
        · cases h
      · cases h
    · cases h
  · cases h

theorem matL_map {ρ : Operand → AV} {ev : Operand → Value} (h : ∀ x, Mat E η (ρ x) (ev x)) : ∀ l : List Operand, MatL E η (l.map ρ) (l.map ev)
  | [] => by simp [MatL]
  | x :: l => by simp only [List.map_cons, MatL]; exact ⟨_, _, rfl, h x, matL_map h l⟩

theorem matL_append : ∀ {a b : List AV} {x y : List Value}, MatL E η a x → MatL E η b y → MatL E η (a ++ b) (x ++ y)
  | [], b, x, y, h1, h2 => by simp only [MatL] at h1; subst h1; simpa using h2
  | c :: a, b, x, y, h1, h2 => by
    simp only [List.cons_append, MatL] at h1 ⊢
    obtain ⟨v, r, rfl, h3, h4⟩ := h1
    exact ⟨v, r ++ y, rfl, h3, matL_append h4 h2⟩

theorem matL_get : ∀ {l : List AV} {vs : List Value} {i : Nat} {a : AV}, MatL E η l vs → l[i]? = some a → ∃ v, vs[i]? = some v ∧ Mat E η a v
  | [], _, _, _, _, h => by simp at h
  | b :: l, vs, 0, a, m, h => by
    simp only [MatL] at m
    obtain ⟨v, r, rfl, h3, _⟩ := m
    simp at h; subst h
    exact ⟨v, rfl, h3⟩
  | b :: l, vs, i + 1, a, m, h => by
    simp only [MatL] at m
    obtain ⟨v, r, rfl, _, h4⟩ := m
    simpa using matL_get h4 (by simpa using h)

theorem rop_mat {ρ : Tmp → AV} {a : Act} (h : ∀ t, Mat E η (ρ t) (a.tmps.getD t undef)) : ∀ x, Mat E η (rop ρ x) (a.eval x)
  | .tmp t => h t
  | .const v => ofVal_mat v
  | .global _ => by simp [rop, Mat]
  | .func f => by simp [rop, Act.eval, Mat, MatL]

theorem opOk_ends {o : Oper} {a : Act} {s : Sem Value} {r : R} (he : execOp a.eval o = (do pure (.value (← s)) : Sem Next)) (h : Ends P E η H w fid r s) :
    OpOk P o a w fun v w' => ∃ η', Concl E η η' H w w' fid r v := by
  obtain ⟨v, w', η', h1, h2⟩ := h
  exact .inl ⟨v, w', by rw [he]; simp [h1], η', h2⟩

theorem map_fst_eq {ρ : Operand → AV} {ev : Operand → Value} : ∀ l : List (Nat × Operand), (l.map fun (i, x) => (i, ρ x)).map (·.1) = (l.map fun (i, x) => (i, ev x)).map (·.1)
  | [] => rfl
  | _ :: l => by simp
theorem map_snd_mat {ρ : Operand → AV} {ev : Operand → Value} (h : ∀ x, Mat E η (ρ x) (ev x)) : ∀ l : List (Nat × Operand), MatL E η ((l.map fun (i, x) => (i, ρ x)).map (·.2)) ((l.map fun (i, x) => (i, ev x)).map (·.2))
  | [] => by simp [MatL]
  | _ :: l => by simp only [List.map_cons, MatL]; exact ⟨_, _, rfl, h _, map_snd_mat h l⟩

theorem bound_ok {ρ : Operand → AV} {ev : Operand → Value} (h : ∀ x, Mat E η (ρ x) (ev x)) (x : Option Operand) : BoundOk E η (x.map ρ) (x.map ev) := by
  cases x with
  | none => trivial
  | some x => exact h x

theorem places_ok {t : TypeId} (h : placesOk P t = true) {l : List AV} {z : Value} (mz : MatC E η l z.cells.toList) {parts : List (Nat × AV)} {vals : Array (Nat × Value)} {l' : List AV}
    (hz : ∀ w, (zeroValue t).run P w = .ok z w) (hf : fillA (fieldPlaces P t) l parts = some l') (h1 : parts.map (·.1) = vals.toList.map (·.1)) (h2 : MatL E η (parts.map (·.2)) (vals.toList.map (·.2))) :
    ∃ cs, (Instr.build t vals).run P w = .ok (.agg cs) w ∧ MatC E η l' cs.toList := by
  obtain ⟨cs, hfill, hm⟩ := fillA_ok hf mz h1 h2
  refine ⟨cs, ?_, hm⟩
  unfold placesOk at h
  split at h
  · rename_i fs hu
    have hpl : (fs.mapM fun f => do pure (f.offset, ← sizeOf f.type) : Sem (Array (Nat × Nat))).run P w = .ok (fs.map fun f => (f.offset, P.cellsOf f.type)) w := by
      have gen : ∀ l : List Field, (l.all fun f => infoOk P f.type) = true → (l.mapM fun f => do pure (f.offset, ← sizeOf f.type) : Sem (List (Nat × Nat))).run P w = .ok (l.map fun f => (f.offset, P.cellsOf f.type)) w := by
        intro l
        induction l with
        | nil => intro _; simp
        | cons f l ih =>
          intro ha
          simp only [List.all_cons, Bool.and_eq_true] at ha
          obtain ⟨i, hi⟩ := info_of ha.1
          simp only [List.mapM_cons, Sem.run_bind, run_sizeOf' hi, Result.andThen_ok, Sem.run_pure, ih ha.2, List.map_cons]
      rw [← Array.toArray_toList (xs := fs), List.mapM_toArray]
      simp only [Sem.run_map, gen fs.toList h, Result.andThen_ok]
      congr 1
      apply Array.ext'
      simp
    have hfe : (fun i => (fs.map fun f => (f.offset, P.cellsOf f.type))[i]?) = fieldPlaces P t := by
      funext i
      simp only [fieldPlaces, hu, Array.getElem?_map]
      cases fs[i]? <;> rfl
    simp only [Instr.build, Sem.run_bind, hz, Result.andThen_ok, run_underlying' hu, hpl]
    rw [hfe, hfill]
    rfl
  · rename_i n e hu
    obtain ⟨i, hi⟩ := info_of h
    have hfe : (fun i => some (i * P.cellsOf e, P.cellsOf e)) = fieldPlaces P t := by
      funext i
      simp only [fieldPlaces, hu]
    simp only [Instr.build, Sem.run_bind, hz, Result.andThen_ok, run_underlying' hu, run_sizeOf' hi]
    rw [hfe, hfill]
    rfl
  · cases h

theorem matC_flatten {l : List AV} {cs : List Value} (m : MatC E η l cs) : ∀ n : Nat, MatC E η (List.replicate n l).flatten (List.replicate n cs).flatten
  | 0 => by simp [MatC]
  | n + 1 => by simp only [List.replicate_succ, List.flatten_cons]; exact matC_append m (matC_flatten m n)

theorem range_mod (z : Array Value) (hz : 0 < z.size) (n : Nat) : ((Array.range (n * z.size)).map (fun j => z[j % z.size]!)).toList = (List.replicate n z.toList).flatten := by
  apply List.ext_getElem
  · simp
  · intro j h1 h2
    simp at h1
    simp only [Array.toList_map, Array.toList_range, List.getElem_map, List.getElem_range]
    have hm : j % z.size < z.size := Nat.mod_lt _ hz
    have gen : ∀ (n j : Nat) (h : j < ((List.replicate n z.toList).flatten).length), ((List.replicate n z.toList).flatten)[j] = z[j % z.size]! := by
      intro n
      induction n with
      | zero => intro j h; simp at h
      | succ n ih =>
        intro j h
        simp only [List.replicate_succ, List.flatten_cons] at h ⊢
        by_cases hj : j < z.size
        · rw [List.getElem_append_left (by simpa using hj), Nat.mod_eq_of_lt hj]
          simp [hj]
        · rw [List.getElem_append_right (by simpa using hj)]
          simp only [Array.length_toList]
          rw [ih]
          congr 1
          exact (Nat.mod_eq_sub_mod (by omega)).symm
    exact (gen n j h2).symm

theorem buildSlice_ok {t e : TypeId} {len : Nat} {z l : List AV} {parts : List (Nat × AV)} {vals : Array (Nat × Value)} (hu : P.underlying t = some (.slice e)) (hn : len * P.cellsOf e ≤ 2 ^ 24) (hp : 0 < len * P.cellsOf e)
    (hz : zeroOf P e = some z) (hf : fillA (fun i => some (i * P.cellsOf e, P.cellsOf e)) (List.replicate len z).flatten parts = some l)
    (h1 : parts.map (·.1) = vals.toList.map (·.1)) (h2 : MatL E η (parts.map (·.2)) (vals.toList.map (·.2))) (hw : widths z = P.cellsOf e) (hη : η fid = none) :
    Ends P E η H w fid ⟨True, .s fid (P.cellsOf e) (.l 0) (.l len), [(fid, .cells (some e) l)], fid + 1⟩ (Instr.buildSlice t len vals) := by
  obtain ⟨zv, hzv, mz, i, hi⟩ := zeroOf_ok (E := E) (η := η) hz
  have hzs : zv.cells.size = P.cellsOf e := by have := matC_length mz; rw [hw] at this; simpa using this
  have hzp : 0 < P.cellsOf e := Nat.pos_of_mul_pos_left hp
  have m0 : MatC E η (List.replicate len z).flatten ((Array.range (len * P.cellsOf e)).map (fun j => zv.cells[j % zv.cells.size]!)).toList := by
    rw [← hzs, range_mod _ (by rw [hzs]; exact hzp)]
    exact matC_flatten mz len
  obtain ⟨cs, hfill, hm⟩ := fillA_ok hf m0 h1 h2
  have hcs : len ≤ cs.size := by
    have e1 : cs.size = len * P.cellsOf e := by
      have gen : ∀ {place : Nat → Option (Nat × Nat)} {vals : List (Nat × Value)} {a b : Array Value}, Instr.fill place a vals = some b → b.size = a.size := by
        intro place vals
        induction vals with
        | nil => intro a b h; simp only [Instr.fill] at h; cases h; rfl
        | cons x vals ih =>
          intro a b h
          obtain ⟨i, v⟩ := x
          simp only [Instr.fill] at h
          split at h
          · cases h
          · split at h
            · cases h
            · rw [ih h]
              rw [← Array.foldl_toList]
              have : ∀ (l : List (Value × Nat)) (a : Array Value) (off : Nat), (l.foldl (fun cs (c, j) => cs.setIfInBounds (off + j) c) a).size = a.size := by
                intro l
                induction l with
                | nil => intro a off; rfl
                | cons y l ih => intro a off; rw [List.foldl_cons, ih]; simp
              exact this _ _ _
      rw [gen hfill]; simp
    rw [e1]; exact Nat.le_mul_of_pos_right _ hzp
  refine ⟨.slice (some ⟨w.heap.size, 0, none⟩) len len, { w with heap := w.heap.push (.cells cs e) }, _, ?_, new_cells hη hm rfl ?_⟩
  · have hn' : ¬ len * P.cellsOf e > 2 ^ 24 := by omega
    have hp' : ¬ len * P.cellsOf e = 0 := by omega
    simp only [Instr.buildSlice, Sem.run_bind, run_underlying' hu, Result.andThen_ok, run_sizeOf' hi]
    simp only [hn', if_false, hp', Sem.run_bind, hzv, Result.andThen_ok, Sem.run_pure, hfill, newRow, run_newObj]
  · simp only [Mat]
    exact ⟨_, _, len, upd_same _ _ _, by simp, by simp; omega, by simp; rfl, fun _ => by simp⟩
end
end Go.Proofs.YtkihnmpjpbfiaaaDoor.Ev
