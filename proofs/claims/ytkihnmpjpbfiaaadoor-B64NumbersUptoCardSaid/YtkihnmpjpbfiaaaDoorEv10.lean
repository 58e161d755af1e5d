/- What an operation does, by its abstract account: append, make. -/
import Derived.Test.YtkihnmpjpbfiaaaDoorEv9
import Derived.Laws.AppendOwn
set_option linter.unusedVariables false
set_option linter.unusedSimpArgs false
namespace Go.Proofs.YtkihnmpjpbfiaaaDoor.Ev
open Go

section
variable {P : Program} {E : Env} {η : Eta} {H : Nat → AB} {D : Nat → Prop} {w : World} {fid : Nat}

/-- A source of elements: a text, or a slice, of this many elements with these cells. -/
def Src (P : Program) (w : World) (size n : Nat) (vals : List Value) (x : Value) : Prop :=
  ∀ w2 : World, w2.heap = w.heap → (Builtin.lenOf x).run P w2 = .ok n w2 ∧ (Builtin.firstCells size n x).run P w2 = .ok vals.toArray w2

theorem cell_heap {w w2 : World} (h : w2.heap = w.heap) (a : Addr) : w2.cell? a = w.cell? a := by simp [World.cell?, h]

theorem src_slice {base : Option Addr} {cap size : Nat} {rc : RC} (hw : rc.w = size) (hc : 0 < rc.len → ∃ b o, base = some ⟨b, o, none⟩ ∧ ∀ j u, rc.vals[j]? = some u → w.cell? ⟨b, o + j, none⟩ = some u) :
    Src P w size rc.len rc.vals (.slice base rc.len cap) := by
  intro w2 h2
  refine ⟨by simp [Builtin.lenOf], ?_⟩
  have hv := rc.vals_length
  rw [hw] at hv
  by_cases h0 : rc.len = 0
  · have hv0 : rc.vals = [] := List.eq_nil_of_length_eq_zero (by rw [hv, h0]; simp)
    cases base with
    | none => simp [Builtin.firstCells, hv0]
    | some a => simp [Builtin.firstCells, hv0, h0, loadCells, loadCellsFrom]
  · obtain ⟨b, o, rfl, hx⟩ := hc (by omega)
    have := run_loadCells_list (P := P) w2 ⟨b, o, none⟩ rc.vals (fun j v hj => by rw [add_eq, cell_heap h2]; exact hx j v hj)
    rw [hv] at this
    simp [Builtin.firstCells, this]

theorem src_string (s : ByteArray) : Src P w 1 s.size ((bytesOf s).map byteVal) (.string s) := by
  intro w2 _
  refine ⟨by simp [Builtin.lenOf], ?_⟩
  have e : s.extract 0 s.size = s := by simp
  simp only [Builtin.firstCells, e, Sem.run_pure, bytesOf, byteVals]

theorem src_of {t2 : TypeId} {kind new : RC} {x : AV} {u : Value} {p : Prop} (hH : Heap E η H D w) {l : List Nat}
    (h : (match P.underlying t2, x with
        | some .string, .str b => match kind with
          | .bytes _ => some (RC.bytes (bytesOf b), True)
          | _ => none
        | some (.slice _), x => view (within H l) kind x
        | _, _ => none) = some (new, p)) (hp : p) (m : Mat E η x u) :
    (∃ d, P.underlying t2 = some d ∧ (d = .string ∨ ∃ e, d = .slice e)) ∧ Src P w new.w new.len new.vals u := by
  revert m
  split at h
  · rename_i b hu
    intro m
    split at h
    · cases h
      simp only [Mat] at m; subst m
      refine ⟨⟨_, hu, .inl rfl⟩, ?_⟩
      have := src_string (P := P) (w := w) b
      simpa [RC.w, RC.len, RC.vals, bytesOf] using this
    · cases h
  · rename_i e hu
    intro m
    obtain ⟨base, cap, rfl, _, hc⟩ := view_ok hH h hp m
    exact ⟨⟨_, hu, .inr ⟨_, rfl⟩⟩, src_slice rfl hc⟩
  · cases h

/-- An append, by where it ends: in its place, or in a new row. -/
theorem run_append {t t2 e : TypeId} {d : TypeDesc} {z : Value} {i : TypeInfo} {base : Option Addr} {sLen sCap n : Nat} {x : Value} {old new : List Value} {ty : TypeId}
    (hu : P.underlying t = some (.slice e)) (hu2 : P.underlying t2 = some d) (hd : d = .string ∨ ∃ e, d = .slice e) (hi : P.info? e = some i) (hz : i.zero = some z) (hzs : z.cells.size = P.cellsOf e)
    (hx : Src P w (P.cellsOf e) n new x) (hb0 : 0 < P.bytesOf e) (hbytes : (sLen + n) * P.bytesOf e ≤ 140737488355328)
    (hold : 0 < sLen + n → sCap < sLen + n → ∀ w2 : World, w2.heap = w.heap → (Builtin.firstCells (P.cellsOf e) sLen (.slice base sLen sCap)).run P w2 = .ok old.toArray w2) :
    (sLen + n ≤ sCap ∧ (Builtin.append_ #[t, t2] ty #[.slice base sLen sCap, x]).run P w =
      ((match base with
        | some a => storeCells (a.add (sLen * P.cellsOf e)) new
        | none => pure ()).run P w).andThen fun _ w' => .ok (.slice base (sLen + n) sCap) w') ∨
    (sCap < sLen + n ∧ ∃ w' c rest, (Builtin.append_ #[t, t2] ty #[.slice base sLen sCap, x]).run P w = .ok (.slice (some ⟨w.heap.size, 0, none⟩) (sLen + n) c) w' ∧ sLen + n ≤ c ∧
      w'.heap = w.heap.push (.cells (old ++ new ++ rest).toArray e) ∧ rest.length = (c - (sLen + n)) * P.cellsOf e ∧ Bg w w') := by
  obtain ⟨hx1, hx2⟩ := hx w rfl
  have hbo : P.bytesOf e = i.bytes := by simp [Program.bytesOf, hi]
  have hce : P.cellsOf e = i.size := by simp [Program.cellsOf, hi]
  rw [hbo] at hb0 hbytes
  rw [hce] at hx2 hzs hold ⊢
  by_cases hc : sLen + n ≤ sCap
  · refine .inl ⟨hc, ?_⟩
    rcases hd with rfl | ⟨e2, rfl⟩ <;> cases base <;> simp [Builtin.append_, run_underlying hu, run_underlying hu2, sizeOf, typeInfo, hi, hx1, hx2, hc]
  · refine .inr ⟨by omega, ?_⟩
    have hpos : 0 < sLen + n := by omega
    have hcap : sCap < sLen + n := by omega
    have hbd : sLen + n ≤ 140737488355328 := Nat.le_trans (Nat.le_mul_of_pos_right _ hb0) hbytes
    have h63 : ¬ (9223372036854775807 < ((sLen : Int) + (n : Int))) := by omega
    have h48 : ¬ (281474976710656 < Builtin.nextslicecap (sLen + n) sCap * i.bytes) := by
      have := growslice_fits (bytes := i.bytes) hcap hbytes; omega
    obtain ⟨_, hx3⟩ := hx w.drew rfl
    rw [hce] at hx3
    have hx4 := hold hpos hcap w.drew rfl
    refine ⟨w.drew.alloc (.cells (old ++ new ++ (Builtin.zeroCells z.cells (grownCap w (sLen + n) sCap e - (sLen + n))).toList).toArray e), grownCap w (sLen + n) sCap e,
      (Builtin.zeroCells z.cells (grownCap w (sLen + n) sCap e - (sLen + n))).toList, ?_, grownCap_ge _ _ _ _, rfl, by simp [Builtin.zeroCells, hzs], ⟨rfl, rfl, rfl⟩⟩
    rcases hd with rfl | ⟨e2, rfl⟩
    · simp [Builtin.append_, run_underlying hu, run_underlying hu2, sizeOf, typeInfo, zeroValue, hi, hz, hx1, hc, h63, h48, Question.forced, hx3, hx4, newRow, grownCap]
      congr 2
      apply Array.ext'
      simp
    · simp [Builtin.append_, run_underlying hu, run_underlying hu2, sizeOf, typeInfo, zeroValue, hi, hz, hx1, hc, h63, h48, Question.forced, hx3, hx4, newRow, grownCap]
      congr 2
      apply Array.ext'
      simp

theorem zeroOk_ok {e : TypeId} (h : zeroOk P e = true) : ∃ i z, P.info? e = some i ∧ i.zero = some z ∧ z.cells.size = P.cellsOf e := by
  unfold zeroOk at h
  split at h
  · rename_i z hz
    rw [Option.bind_eq_some_iff] at hz
    obtain ⟨i, hi, hz⟩ := hz
    exact ⟨i, z, hi, hz, by simpa using h⟩
  · cases h

theorem tyOk_told {told : Option TypeId} {lo : AN} {e t : TypeId} {fr : Nat × Nat} (h : tyOk told t fr) : tyOk (if told = some e ∧ lo.v = 0 then some e else none) t fr := by
  split
  · rename_i hh; rw [hh.1] at h; exact h
  · exact tyOk_none
theorem told_off {told : Option TypeId} {lo : AN} {e : TypeId} {o w : Nat} (h : told ≠ none → o = 0) : (if told = some e ∧ lo.v = 0 then some e else none) ≠ none → o + lo.v * w = 0 := by
  intro h1
  split at h1
  · rename_i hh; rw [hh.2, h (by rw [hh.1]; simp)]; simp
  · exact absurd rfl h1
theorem tyOk_told' {told : Option TypeId} {lo : AN} {e : TypeId} : tyOk (if told = some e ∧ lo.v = 0 then some e else none) e (0, 0) := by
  split
  · exact tyOk_some
  · exact tyOk_none

theorem Concl.moved {side : Prop} {av : AV} {v : Value} {ab : AB} {id : Nat} {A A' : RA} {w' : World} (hη : η fid = none) (hA : η id = some A) (hl : (H id).live = true)
    (ok : BlkOk E (Ev.upd η fid A') w' A' ab) (hb : 0 < A'.cap → A'.blk < w'.heap.size ∧ (w.heap.size ≤ A'.blk ∨ (0 < A.cap ∧ A.blk = A'.blk)))
    (hf : ∀ b, b < w.heap.size → (0 < A.cap → A.blk ≠ b) → w'.heap[b]? = w.heap[b]?) (hz : w.heap.size ≤ w'.heap.size) (hv : Mat E (Ev.upd η fid A') av v) (hg : Bg w w' := by exact ⟨rfl, rfl, rfl⟩) :
    Concl E η (Ev.upd η fid A') H w w' fid ⟨side, av, [(id, .gone), (fid, ab)], fid + 1⟩ v where
  bg := hg
  ext := upd_ext hη
  dom := fun id A h h' => by
    by_cases e : id = fid
    · subst e; exact ⟨Nat.le_refl _, Nat.lt_succ_self _⟩
    · simp [Ev.upd, e, h'] at h
  val := hv
  upd := fun id' ab' h hlv => by
    simp only [lookup] at h
    split at h
    · cases h; cases hlv
    · split at h
      · rename_i e; subst e
        cases h
        refine ⟨_, upd_same _ _ _, ok, fun hc => ⟨(hb hc).1, ?_⟩⟩
        rcases (hb hc).2 with h4 | ⟨h4, h5⟩
        · exact .inl h4
        · exact .inr ⟨id, A, hA, h4, h5, hl, .gone, by simp [lookup]⟩
      · cases h
  dst := fun id1 id' ab ab' A A' hne h h' hlv hlv' => by
    simp only [lookup] at h h'
    split at h
    · cases h; cases hlv
    · split at h'
      · cases h'; cases hlv'
      · split at h <;> split at h' <;> first | (cases h; done) | (cases h'; done) | (exact absurd (by omega) hne)
  frm := fun b hb' h => hf b hb' fun hc => h id A .gone (by simp [lookup]) hl hA hc
  sz := hz

/-- Behind an append: the row anew, in its old place or in a new one. -/
theorem appendA_ok (hH : Heap E η H D w) {l : List Nat} {t t2 ty : TypeId} {s x : AV} {v u : Value} {r : R} (h : appendA P t t2 s x (within H l) fid = some r) (m : Mat E η s v) (m' : Mat E η x u) (hs : r.side)
    (hN : ∀ id, fid ≤ id → id < r.nxt → η id = none) : Ends P E η H w fid r (Builtin.append_ #[t, t2] ty #[v, u]) := by
  unfold appendA at h
  split at h
  · rename_i e hu
    split at h
    · rename_i kind hk
      split at h
      · rename_i hc
        obtain ⟨hc1, hc2, hc3⟩ := hc
        obtain ⟨i, z, hi, hz, hzs⟩ := zeroOk_ok hc2
        simp only at h
        split at h
        · rename_i new p hsrc
          split at h
          · split at h
            · rename_i rc hrc
              cases h
              obtain ⟨hp, hb⟩ := hs
              simp only [Mat] at m; subst m
              obtain ⟨⟨d, hu2, hd⟩, hx⟩ := src_of hH hsrc hp m'
              obtain ⟨a1, a2, a3, a4⟩ := RC.app_ok hrc
              obtain ⟨n1, n2, n3⟩ := kind.nil_ok
              rw [n1, List.nil_append] at a1
              rw [n2, Nat.zero_add] at a2
              rw [n3] at a3 a4
              have hw : new.w = P.cellsOf e := by rw [a4, hc1]
              rw [hw] at hx
              have hnew : new.vals.length = new.len * P.cellsOf e := by rw [RC.vals_length, hw]
              have ha := run_append (w := w) (base := none) (sLen := 0) (sCap := 0) (old := []) (ty := ty) hu hu2 hd hi hz hzs hx hc3 (by rw [Nat.zero_add, ← a2]; exact hb)
                (fun _ _ w2 _ => by simp [Builtin.firstCells])
              rcases ha with ⟨h0, ha⟩ | ⟨h0, w', c, rest, ha, hc0, hh, hrest, hbg⟩
              · have hl : rc.len = 0 := by omega
                refine ⟨_, w, _, by simpa [show new.len = 0 by omega] using ha, .virt (hN fid (Nat.le_refl _) (Nat.lt_succ_self _)) rfl ⟨by rw [hl]; exact Nat.le_refl _, fun h => by cases h⟩ ?_⟩
                simp only [Mat]
                exact ⟨_, none, 0, upd_same _ _ _, by simp [hl], by simp, by simp [hl], fun h => by cases h⟩
              · simp only [Nat.zero_add, List.nil_append] at ha hc0 hh hrest
                refine ⟨_, w', _, ha, .fresh (cap := c) (hN fid (Nat.le_refl _) (Nat.lt_succ_self _)) hh ⟨by rw [a2]; exact hc0, fun _ => ⟨_, _, _, by rw [hh, Array.getElem?_push_size], .inl (Nat.le_refl _), ?_, ?_, tyOk_some, fun _ => rfl⟩⟩ ?_ hbg⟩
                · rw [a3]
                  simp only [Nat.zero_add, List.size_toArray, List.length_append, hnew, hrest, ← hc1, ← Nat.add_mul]
                  exact Nat.mul_le_mul_right _ (by omega)
                · intro j q hj
                  rw [a1] at hj
                  simp only [Nat.zero_add, List.getElem?_toArray]
                  rw [List.getElem?_append_left (List.getElem?_eq_some_iff.1 hj).1]
                  exact hj
                · simp only [Mat]
                  exact ⟨_, _, c, upd_same _ _ _, by simp [a2]; exact hc0, by simp, by simp [a2]; rfl, by simp⟩
            · cases h
          · rename_i id w' lo len
            split at h
            · rename_i old hcl
              split at h
              · rename_i hw'
                split at h
                · rename_i rc hrc
                  cases h
                  obtain ⟨hp, hlen, hb⟩ := hs
                  simp only [Mat] at m
                  obtain ⟨A, a, c, hA, hle, hcA, rfl, ha⟩ := m
                  obtain ⟨⟨d, hu2, hd⟩, hx⟩ := src_of hH hsrc hp m'
                  obtain ⟨a1, a2, a3, a4⟩ := RC.app_ok hrc
                  rw [RC.sub_vals] at a1
                  rw [RC.sub_len, show min len.v (old.len - lo.v) = len.v by omega] at a2
                  rw [RC.sub_w] at a3 a4
                  have hw : new.w = P.cellsOf e := by rw [a4, hw'.1, hw'.2, hc1]
                  have how : old.w = P.cellsOf e := by rw [hw'.1, hw'.2, hc1]
                  rw [hw] at hx
                  have hnew : new.vals.length = new.len * P.cellsOf e := by rw [RC.vals_length, hw]
                  have hl := live_of hcl rfl
                  obtain ⟨B, hB, hb2, hlt⟩ := hH.hp id hl
                  rw [hA] at hB; cases hB
                  rw [within_eq hcl rfl] at hb2
                  obtain ⟨g4, hb2⟩ := hb2
                  have hη := hN fid (Nat.le_refl _) (Nat.lt_succ_self _)
                  have holdl : ((old.vals.drop (lo.v * old.w)).take (len.v * old.w)).length = len.v * P.cellsOf e := by
                    rw [← RC.sub_vals, RC.vals_length, RC.sub_len, RC.sub_w, how, show min len.v (old.len - lo.v) = len.v by omega]
                  have hcell : ∀ j q, ((old.vals.drop (lo.v * old.w)).take (len.v * old.w))[j]? = some q → old.vals[lo.v * old.w + j]? = some q := by
                    intro j q hj
                    have hlt : j < len.v * old.w := by
                      have := (List.getElem?_eq_some_iff.1 hj).1
                      rw [List.length_take] at this; omega
                    rwa [take_drop_get _ _ _ _ hlt] at hj
                  have hap := run_append (w := w) (base := a) (sLen := len.v) (sCap := c) (old := (old.vals.drop (lo.v * old.w)).take (len.v * old.w)) (ty := ty) hu hu2 hd hi hz hzs hx hc3 (by rw [← a2]; exact hb)
                    (fun _ _ w2 h2 => by
                      by_cases h0 : len.v = 0
                      · have : (old.vals.drop (lo.v * old.w)).take (len.v * old.w) = [] := by simp [h0]
                        rw [this]
                        cases a <;> simp [Builtin.firstCells, h0, loadCells, loadCellsFrom]
                      · rw [ha (by omega)]
                        obtain ⟨cs, ty', fr, g1, _, g3, g5, _⟩ := hb2 (by omega)
                        have := run_loadCells_list (P := P) w2 ⟨A.blk, A.off + lo.v * w', none⟩ ((old.vals.drop (lo.v * old.w)).take (len.v * old.w)) (fun j q hj => by
                          rw [add_eq, cell_heap h2, cell_of g1, ← hw'.1, Nat.add_assoc]
                          exact g5 _ _ (hcell j q hj))
                        rw [holdl] at this
                        simp [Builtin.firstCells, this])
                  rcases hap with ⟨h0, hap⟩ | ⟨h0, w2, c2, rest, hap, hc0, hh, hrest, hbg⟩
                  · by_cases hcz : c = 0
                    · have e1 : len.v = 0 := by omega
                      have e2 : new.len = 0 := by omega
                      have e3 : new.vals = [] := List.eq_nil_of_length_eq_zero (by rw [hnew, e2]; simp)
                      have hr0 : rc.len = 0 := by omega
                      refine ⟨.slice a (len.v + new.len) c, w, _, by rw [hap, e3]; cases a <;> simp [storeCells], .moved (A' := ⟨0, 0, 0⟩) hη hA hl ⟨by rw [hr0]; exact Nat.le_refl _, fun h => by cases h⟩ (fun h => by cases h) (fun _ _ _ => rfl) (Nat.le_refl _) ?_⟩
                      simp only [Mat]
                      exact ⟨_, a, 0, upd_same _ _ _, by simp [hr0], by simp, by simp [hr0, e1, e2, hcz], fun h => by cases h⟩
                    · have hcpos : 0 < c := by omega
                      have hApos : 0 < A.cap := by omega
                      obtain ⟨cs, ty', fr, g1, g2, g3, g5, g9⟩ := hb2 hApos
                      rw [ha hcpos] at hap ⊢
                      rw [how] at g3
                      have hroom : A.off + lo.v * w' + len.v * P.cellsOf e + new.vals.length ≤ cs.size := by
                        have h1 : (lo.v + (len.v + new.len)) * P.cellsOf e ≤ A.cap * P.cellsOf e := Nat.mul_le_mul_right _ (by omega)
                        rw [Nat.add_mul, Nat.add_mul] at h1
                        rw [hnew, ← hw'.1, how]; omega
                      obtain ⟨w2, r1, r2, r3, r4, r5⟩ := run_storeCells' (P := P) (A.off + lo.v * w' + len.v * P.cellsOf e) new.vals 0 cs w g1 g2 (by simpa using hroom) new.vals_one
                      simp only [add_eq, r1, Result.andThen_ok] at hap
                      simp only [Nat.add_zero] at r4
                      refine ⟨_, w2, _, hap, .moved (A' := ⟨A.blk, A.off + lo.v * w', c⟩) hη hA hl ⟨by rw [a2]; exact h0, fun _ => ⟨_, _, _, r4, ?_, ?_, ?_, tyOk_told g9.1, told_off g9.2⟩⟩
                        (fun _ => ⟨by rw [r2]; exact (hlt hApos).1, .inr ⟨hApos, rfl⟩⟩) (fun b _ hne => r3 b (fun e => hne hApos e.symm)) (by rw [r2]; exact Nat.le_refl _) ?_ r5⟩
                      · have : (cs.toList.take (A.off + lo.v * w' + len.v * P.cellsOf e) ++ new.vals ++ cs.toList.drop (A.off + lo.v * w' + len.v * P.cellsOf e + new.vals.length)).toArray.size = cs.size := by
                          simp; omega
                        rw [this]; exact g2
                      · have h1 : (lo.v + c) * P.cellsOf e ≤ A.cap * P.cellsOf e := Nat.mul_le_mul_right _ (by omega)
                        rw [Nat.add_mul] at h1
                        have : (cs.toList.take (A.off + lo.v * w' + len.v * P.cellsOf e) ++ new.vals ++ cs.toList.drop (A.off + lo.v * w' + len.v * P.cellsOf e + new.vals.length)).toArray.size = cs.size := by
                          simp; omega
                        rw [this, a3, how]
                        show A.off + lo.v * w' + c * P.cellsOf e ≤ cs.size
                        rw [← hw'.1, how]; omega
                      · intro j q hj
                        show (cs.toList.take (A.off + lo.v * w' + len.v * P.cellsOf e) ++ new.vals ++ cs.toList.drop (A.off + lo.v * w' + len.v * P.cellsOf e + new.vals.length)).toArray[A.off + lo.v * w' + j]? = some q
                        rw [a1] at hj
                        simp only [List.getElem?_toArray]
                        have ht : (cs.toList.take (A.off + lo.v * w' + len.v * P.cellsOf e)).length = A.off + lo.v * w' + len.v * P.cellsOf e := by simp; omega
                        by_cases hjl : j < len.v * P.cellsOf e
                        · rw [List.getElem?_append_left (by rw [holdl]; exact hjl)] at hj
                          rw [List.append_assoc, List.getElem?_append_left (by rw [ht]; omega), List.getElem?_take_of_lt (by omega)]
                          have := g5 _ _ (hcell j q hj)
                          rw [← hw'.1, Nat.add_assoc]
                          simpa using this
                        · rw [List.getElem?_append_right (by rw [holdl]; omega), holdl] at hj
                          rw [List.append_assoc, List.getElem?_append_right (by rw [ht]; omega), ht, List.getElem?_append_left (by
                            have := (List.getElem?_eq_some_iff.1 hj).1; omega)]
                          rw [← hj]; congr 1; omega
                      · simp only [Mat]
                        exact ⟨_, _, c, upd_same _ _ _, by simp [a2]; exact h0, by simp, by simp [a2]; rfl, fun _ => by simp⟩
                  · refine ⟨_, w2, _, hap, .moved (A' := ⟨w.heap.size, 0, c2⟩) hη hA hl ⟨by rw [a2]; exact hc0, fun _ => ⟨_, _, _, by rw [hh, Array.getElem?_push_size], .inl (Nat.le_refl _), ?_, ?_, tyOk_told', fun _ => rfl⟩⟩
                      (fun _ => ⟨by rw [hh]; simp, .inl (Nat.le_refl _)⟩) (fun b hb' _ => by rw [hh, Array.getElem?_push]; simp [Nat.ne_of_lt hb']) (by rw [hh]; simp) ?_ hbg⟩
                    · rw [a3]
                      simp only [Nat.zero_add, List.size_toArray, List.length_append, holdl, hnew, hrest]
                      rw [how, ← Nat.add_mul, ← Nat.add_mul]
                      exact Nat.mul_le_mul_right _ (by omega)
                    · intro j q hj
                      rw [a1] at hj
                      simp only [Nat.zero_add, List.getElem?_toArray]
                      rw [List.getElem?_append_left (List.getElem?_eq_some_iff.1 hj).1]
                      exact hj
                    · simp only [Mat]
                      exact ⟨_, _, c2, upd_same _ _ _, by simp [a2]; exact hc0, by simp, by simp [a2]; rfl, by simp⟩
                · cases h
              · cases h
            · cases h
          · cases h
        · cases h
      · cases h
    · cases h
  · cases h
end
end Go.Proofs.YtkihnmpjpbfiaaaDoor.Ev
