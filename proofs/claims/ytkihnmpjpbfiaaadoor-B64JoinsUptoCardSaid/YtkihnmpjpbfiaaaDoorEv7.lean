/- What an operation does, by its abstract account: slices; conversions; lengths; new rows. -/
import Derived.Test.YtkihnmpjpbfiaaaDoorEv6
set_option linter.unusedVariables false
set_option linter.unusedSimpArgs false
namespace Go.Proofs.YtkihnmpjpbfiaaaDoor.Ev
open Go

section
variable {P : Program} {E : Env} {η : Eta} {H : Nat → AB} {D : Nat → Prop} {w : World} {fid : Nat}

theorem unA_ok {op : UnOp} {x : AV} {v : Value} {r : R} (h : unA op x fid = some r) (m : Mat E η x v) : Ends P E η H w fid r (Op.unary op v) := by
  unfold unA at h
  split at h
  · rename_i e
    cases h; simp only [Mat] at m; subst m
    exact ends_pure (v := .bool (!e)) (by simp [Op.unary]) (by simp [Mat])
  · rename_i e
    cases h; simp only [Mat] at m; subst m
    exact ends_pure (v := .bool (!e)) (by simp [Op.unary]) (by simp [Mat])
  · split at h
    · rename_i k a h1
      have e1 := avInt_ok h1 m; subst e1
      cases h
      exact ends_pure (by simp [Op.unary, Op.intArith]) (mkInt_mat _ _ _)
    · cases h
  · split at h
    · rename_i k a h1
      have e1 := avInt_ok h1 m; subst e1
      cases h
      exact ends_pure (by simp [Op.unary, Op.intBits]) (mkInt_mat _ _ _)
    · cases h
  · cases h

/-- A slice read by its contents. -/
theorem view_ok (hH : Heap E η H D w) {l : List Nat} {kind rc : RC} {a : AV} {v : Value} {p : Prop} (h : view (within H l) kind a = some (rc, p)) (hp : p) (m : Mat E η a v) :
    ∃ base cap, v = .slice base rc.len cap ∧ rc.len ≤ cap ∧ (0 < rc.len → ∃ b o, base = some ⟨b, o, none⟩ ∧ ∀ j u, rc.vals[j]? = some u → w.cell? ⟨b, o + j, none⟩ = some u) := by
  unfold view at h
  split at h
  · cases h
    simp only [Mat] at m; subst m
    obtain ⟨_, h2, _⟩ := kind.nil_ok
    exact ⟨none, 0, by rw [h2], by rw [h2]; exact Nat.le_refl _, by rw [h2]; intro hh; omega⟩
  · cases h
    simp only [Mat] at m
    obtain ⟨a, c, rfl, h1, h2⟩ := m
    refine ⟨a, c, rfl, h1, fun hh => ?_⟩
    obtain ⟨b, o, rfl, h3⟩ := h2 hh
    exact ⟨b, o, rfl, fun j u hj => ext_cell hH h3 hj⟩
  · rename_i id w' lo len
    simp only [Mat] at m
    obtain ⟨A, ad, cap, hA, h0, h1, rfl, h2⟩ := m
    split at h
    · rename_i rc0 hcl
      obtain ⟨B, hB, hb, _⟩ := hH.hp id (live_of hcl rfl)
      rw [hA] at hB; cases hB
      rw [within_eq hcl rfl] at hb
      obtain ⟨g4, hb⟩ := hb
      split at h
      · rename_i hw
        cases h
        have hl : (rc0.sub lo.v len.v).len = len.v := by rw [RC.sub_len]; omega
        refine ⟨ad, cap, by rw [hl], by rw [hl]; omega, fun hh => ?_⟩
        rw [hl] at hh
        have := h2 (by omega); subst this
        obtain ⟨cs, ty, fr, g1, _, g3, g5, g9⟩ := hb (by omega)
        refine ⟨_, _, rfl, fun j u hj => ?_⟩
        rw [RC.sub_vals] at hj
        have hlt : j < len.v * rc0.w := by
          have := (List.getElem?_eq_some_iff.1 hj).1
          rw [List.length_take] at this; omega
        rw [take_drop_get _ _ _ _ hlt] at hj
        rw [cell_of g1, ← hw, Nat.add_assoc]
        exact g5 _ _ hj
      · cases h
    · rename_i cl hcl
      obtain ⟨B, hB, hb, _⟩ := hH.hp id (live_of hcl rfl)
      rw [hA] at hB; cases hB
      rw [within_eq hcl rfl] at hb
      obtain ⟨g0, cs, ty, fr, g1, _, g3, g9⟩ := hb
      split at h
      · rename_i lo n
        simp only [AN.v_l] at h0 h1 h2 ⊢
        split at h
        · rename_i x0 r0 ht1
          split at h
          · rename_i x1 r1 ht2
            split at h
            · rename_i hkw
              obtain ⟨a1, _, a3, _⟩ := takeW_ok ht1 g3
              obtain ⟨b1, b2, _, _⟩ := takeW_ok ht2 a3
              obtain ⟨c1, c2, c3⟩ := fromCells_ok h hp b2
              refine ⟨ad, cap, by rw [c2], by rw [c2]; omega, fun hh => ?_⟩
              rw [c2] at hh
              have := h2 (by omega); subst this
              refine ⟨_, _, rfl, fun j u hj => ?_⟩
              rw [c1] at hj
              have hlt : j < n * w' := by
                have := (List.getElem?_eq_some_iff.1 hj).1
                rw [List.length_take] at this; omega
              rw [take_drop_get _ _ _ _ hlt] at hj
              rw [cell_of g1, g0, Nat.zero_add]
              simpa using hj
            · cases h
          · cases h
        · cases h
      · split at h
        · rename_i k n xs k' _
          split at h
          · rename_i hk
            obtain ⟨rfl, rfl⟩ := hk
            cases h
            simp only [MatC] at g3
            obtain ⟨e, r, e2, rfl⟩ := g3
            have hl : (RC.ints k ((xs.drop lo.v).take len.v)).len = len.v := by simp [RC.len]; omega
            refine ⟨ad, cap, by rw [hl], by rw [hl]; omega, fun hh => ?_⟩
            rw [hl] at hh
            have := h2 (by omega); subst this
            refine ⟨_, _, rfl, fun j u hj => ?_⟩
            rw [cell_of g1, g0, Nat.zero_add, Nat.mul_one]
            simp only [RC.vals, List.getElem?_map] at hj
            have hlt : j < len.v := by
              rw [Option.map_eq_some_iff] at hj
              obtain ⟨q, hq, _⟩ := hj
              have := (List.getElem?_eq_some_iff.1 hq).1
              rw [List.length_take] at this; omega
            rw [take_drop_get _ _ _ _ hlt] at hj
            have : cs[lo.v + j]? = cs.toList[lo.v + j]? := by simp
            rw [this, e2, List.append_nil, List.getElem?_map]; exact hj
          · cases h
        · rename_i n xs bs
          split at h
          · rename_i hk
            subst hk
            cases h
            simp only [MatC] at g3
            obtain ⟨e, r, e2, rfl⟩ := g3
            have hb := toBytes_ok hp.2
            have hl : (RC.bytes (toBytes ((xs.drop lo.v).take len.v))).len = len.v := by
              have := congrArg List.length hb
              simp only [List.length_map] at this
              simp only [RC.len, this]
              have := hp.1
              simp; omega
            refine ⟨ad, cap, by rw [hl], by rw [hl]; omega, fun hh => ?_⟩
            rw [hl] at hh
            have := h2 (by omega); subst this
            refine ⟨_, _, rfl, fun j u hj => ?_⟩
            rw [cell_of g1, g0, Nat.zero_add, Nat.mul_one]
            simp only [RC.vals, hb, List.getElem?_map] at hj
            have hlt : j < len.v := by
              rw [Option.map_eq_some_iff] at hj
              obtain ⟨q, hq, _⟩ := hj
              have := (List.getElem?_eq_some_iff.1 hq).1
              rw [List.length_take] at this; omega
            rw [take_drop_get _ _ _ _ hlt] at hj
            have : cs[lo.v + j]? = cs.toList[lo.v + j]? := by simp
            rw [this, e2, List.append_nil, List.getElem?_map]; exact hj
          · cases h
        · cases h
    · cases h
  · cases h

theorem heap_freeze (w : World) (b n : Nat) (cs : Array Value) (t : TypeId) (h : w.heap[b]? = some (.cells cs t)) : (w.freeze ⟨b, n, none⟩ 1).heap = w.heap.set! b (.cells cs t (n, n + 1)) := by
  simp only [World.freeze]
  rw [if_neg (by simp)]
  apply Array.ext_getElem?
  intro i
  simp only [Array.getElem?_modify, Array.set!_eq_setIfInBounds, Array.getElem?_setIfInBounds]
  have hb := (Array.getElem?_eq_some_iff.1 h).1
  by_cases e : b = i
  · subst e
    have hg : w.heap[b] = .cells cs t := (Array.getElem?_eq_some_iff.1 h).2
    simp [hb, hg]
  · simp [e]

theorem byteVals (s : ByteArray) : s.data.toList.map byteVal = (s.data.map fun b => Value.int .u8 b.toNat).toList := by simp [byteVal]

theorem bg_freeze (w w' : World) (a : Addr) (n : Nat) (h : Bg w w') : Bg w (w'.freeze a n) := by
  unfold World.freeze
  split
  · exact h
  · exact ⟨h.os, h.tape, h.output⟩

theorem run_stringToBytes (e : TypeId) (s : ByteArray) : ∃ w' n, (Conv.stringToBytes e s).run P w = .ok (.slice (some ⟨w.heap.size, 0, none⟩) s.size (s.size + n)) w' ∧
    w'.heap = w.heap.push (.cells ((s.data.map fun b => Value.int .u8 b.toNat) ++ Array.replicate n (.int .u8 0)) e (s.size + n, s.size + n + 1)) ∧ Bg w w' := by
  obtain ⟨c, hc, hlc⟩ : ∃ c, (Question.appendCap s.size 0 e).cut (w.tape w.drawn (.appendCap s.size 0 e)) = c ∧ s.size ≤ c := ⟨_, rfl, by simp [Question.cut]⟩
  obtain ⟨n, rfl⟩ : ∃ n, c = s.size + n := ⟨c - s.size, by omega⟩
  have hh : (({ w with drawn := w.drawn + 1 } : World).heap.push (.cells ((s.data.map fun b => Value.int .u8 b.toNat) ++ Array.replicate n (.int .u8 0)) e))[w.heap.size]? = some (.cells ((s.data.map fun b => Value.int .u8 b.toNat) ++ Array.replicate n (.int .u8 0)) e) := by simp
  have hz : ((s.data.map fun b => Value.int .u8 b.toNat) ++ Array.replicate n (Value.int .u8 0)).size = s.size + n := by simp
  refine ⟨({ w with drawn := w.drawn + 1, heap := w.heap.push (.cells ((s.data.map fun b => Value.int .u8 b.toNat) ++ Array.replicate n (.int .u8 0)) e) } : World).freeze ⟨w.heap.size, s.size + n, none⟩ 1, n, ?_, ?_, bg_freeze _ _ _ _ ⟨rfl, rfl, rfl⟩⟩
  · simp only [Conv.stringToBytes, Sem.run_bind, run_choose, Question.forced, Bool.false_eq_true, if_false, Result.andThen_ok, hc, Nat.add_sub_cancel_left, newRow, run_newObj, markStringish, run_shape]
    simp only [World.shape?, Array.getElem?_push_size, run_freeze, Result.andThen_ok, Sem.run_pure, hz]
  · rw [heap_freeze _ _ _ _ e hh]
    apply Array.ext_getElem?
    intro i
    simp only [Array.set!_eq_setIfInBounds, Array.getElem?_setIfInBounds, Array.getElem?_push]
    by_cases e : w.heap.size = i
    · subst e; simp
    · simp [e, Ne.symm e]

theorem run_bytesToString' {base : Option Addr} {cap : Nat} {l : List UInt8} (hc : 0 < l.length → ∃ b o, base = some ⟨b, o, none⟩ ∧ ∀ j u, (l.map byteVal)[j]? = some u → w.cell? ⟨b, o + j, none⟩ = some u) :
    (Conv.bytesToString (.slice base l.length cap)).run P w = .ok (.string ⟨l.toArray⟩) w := by
  have fold : ∀ (l : List UInt8) (s : ByteArray), (l.map fun b => (b.toNat : Int)).foldl (fun r n => r.push (UInt8.ofNat n.toNat)) s = ⟨s.data ++ l.toArray⟩ := by
    intro l
    induction l with
    | nil => intro s; simp
    | cons b l ih =>
      intro s
      rw [List.map_cons, List.foldl_cons, ih]
      simp [ByteArray.push]
  cases base with
  | none =>
    cases l with
    | nil => simp [Conv.bytesToString]; rfl
    | cons b l => obtain ⟨_, _, h, _⟩ := hc (by simp); cases h
  | some A =>
    cases l with
    | nil => simp [Conv.bytesToString, loadCells, loadCellsFrom]; rfl
    | cons b l =>
      obtain ⟨bl, o, h, h2⟩ := hc (by simp)
      cases h
      have h3 := run_loadCells_list (P := P) w ⟨bl, o, none⟩ ((b :: l).map byteVal) (fun j v hj => by rw [add_eq]; exact h2 j v hj)
      rw [List.length_map] at h3
      have e : (b :: l).map byteVal = ((b :: l).map fun b => (b.toNat : Int)).map (Value.int .u8) := by simp [byteVal]
      rw [e] at h3
      rw [run_bytesToString w _ _ _ _ h3, fold]
      simp

theorem convA_ok (hH : Heap E η H D w) {l : List Nat} {src dst : TypeId} {x : AV} {v : Value} {r : R} (h : convA P src dst x (within H l) fid = some r) (m : Mat E η x v) (hs : r.side)
    (hN : ∀ id, fid ≤ id → id < r.nxt → η id = none) : Ends P E η H w fid r (convert src dst v) := by
  unfold convA at h
  split at h
  · rename_i d k k' e h1 h2
    cases h; simp only [Mat] at m; subst m
    refine ends_pure (v := .int k (k.wrap e)) ?_ (by simp [Mat])
    simp only [convert, Sem.run_bind, run_underlying' h1, run_underlying' h2, Result.andThen_ok]
    rfl
  · rename_i d k k' e h1 h2
    cases h; simp only [Mat] at m; subst m
    refine ends_pure (v := .int k (k.wrap e)) ?_ (by simp [Mat])
    simp only [convert, Sem.run_bind, run_underlying' h1, run_underlying' h2, Result.andThen_ok]
    rfl
  · rename_i s h1 h2
    cases h; simp only [Mat] at m; subst m
    refine ends_pure (v := .string s) ?_ (by simp [Mat])
    simp only [convert, Sem.run_bind, run_underlying' h1, run_underlying' h2, Result.andThen_ok]
    rfl
  · rename_i e s h1 h2
    split at h
    · rename_i he
      cases h; simp only [Mat] at m; subst m
      obtain ⟨w', n, g1, g2, g3⟩ := run_stringToBytes (P := P) (w := w) e s
      refine ⟨.slice (some ⟨w.heap.size, 0, none⟩) s.size (s.size + n), w', _, ?_, .fresh (cap := s.size + n) (hN fid (Nat.le_refl _) (Nat.lt_succ_self _)) g2 ?_ ?_ g3⟩
      · simp only [convert, Sem.run_bind, run_underlying' h1, run_underlying' h2, Result.andThen_ok, run_underlying' he]
        exact g1
      · refine ⟨by simp [RC.len, bytesOf], fun _ => ⟨_, _, _, by rw [g2, Array.getElem?_push_size], .inr ?_, ?_, ?_, tyOk_none, fun h => absurd rfl h⟩⟩
        · simp
        · simp [RC.w]
        · intro j u hj
          simp only [RC.vals, bytesOf, byteVals] at hj
          rw [Nat.zero_add, Array.getElem?_append_left (by simpa using (List.getElem?_eq_some_iff.1 hj).1)]
          simpa using hj
      · simp only [Mat]
        exact ⟨_, _, _, upd_same _ _ _, by simp, by simp, rfl, by simp⟩
    · cases h
  · rename_i e h1 h2
    split at h
    · rename_i he
      split at h
      · rename_i l' p hv
        cases h
        obtain ⟨base, cap, rfl, _, hc⟩ := view_ok hH hv hs m
        refine ends_pure (v := .string ⟨l'.toArray⟩) ?_ (by simp [Mat])
        simp only [convert, Sem.run_bind, run_underlying' h1, run_underlying' h2, Result.andThen_ok, run_underlying' he]
        exact run_bytesToString' hc
      · cases h
    · cases h
  · rename_i t id h1 h2
    simp only [Mat] at m
    obtain ⟨A, hA, rfl⟩ := m
    split at h
    · rename_i e cl hcl
      split at h
      · rename_i hc
        cases h
        obtain ⟨B, hB, hb, _⟩ := hH.hp id (live_of hcl rfl)
        rw [hA] at hB; cases hB
        rw [within_eq hcl rfl] at hb
        obtain ⟨g0, cs, ty, fr, g1, _, g3, g9⟩ := hb
        have hsz : cs.size = widths cl := by simpa using matC_length g3
        have hst := hc.2
        unfold sized at hst
        split at hst
        · rename_i i hi
          refine ends_pure (v := .pointer (some ⟨A.blk, A.off + 0, none⟩)) ?_ (by simp only [Mat]; exact ⟨A, hA, rfl⟩)
          exact Lib.run_to_unsafe w _ h1 h2 hi (by simpa using hst) (e := ty) (cells := cs.size) (by simp [World.shape?, g1]) (by rw [g0, hsz]; exact hc.1)
        · cases hst
      · cases h
    · cases h
  · rename_i u id h1 h2
    simp only [Mat] at m
    obtain ⟨A, hA, rfl⟩ := m
    split at h
    · rename_i e cl hcl
      split at h
      · rename_i hc
        cases h
        obtain ⟨B, hB, hb, _⟩ := hH.hp id (live_of hcl rfl)
        rw [hA] at hB; cases hB
        rw [within_eq hcl rfl] at hb
        obtain ⟨g0, cs, ty, fr, g1, _, g3, g9⟩ := hb
        have hsz : cs.size = widths cl := by simpa using matC_length g3
        obtain ⟨rfl, _⟩ := g9 e rfl
        have hst := hc.2
        unfold infoOk at hst
        obtain ⟨i, hi⟩ := Option.isSome_iff_exists.1 hst
        refine ends_pure (v := .pointer (some ⟨A.blk, A.off + 0, none⟩)) ?_ (by simp only [Mat]; exact ⟨A, hA, rfl⟩)
        exact Lib.run_from_unsafe w _ h1 h2 hi (e := ty) (cells := cs.size) (by simp [World.shape?, g1]) (by rw [g0, hsz]; exact hc.1)
      · cases h
    · cases h
  · rename_i d k e _ h1 h2
    cases h; simp only [Mat] at m; subst m
    refine ends_pure (v := .string (Utf8.encode e)) ?_ (by simp [Mat])
    simp only [convert, Sem.run_bind, run_underlying' h1, run_underlying' h2, Result.andThen_ok]
    cases d <;> rfl
  · rename_i d k e _ h1 h2
    cases h; simp only [Mat] at m; subst m
    refine ends_pure (v := .string (Utf8.encode e)) ?_ (by simp [Mat])
    simp only [convert, Sem.run_bind, run_underlying' h1, run_underlying' h2, Result.andThen_ok]
    cases d <;> rfl
  · cases h
end
end Go.Proofs.YtkihnmpjpbfiaaaDoor.Ev
