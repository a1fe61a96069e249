/- CONVERSIONS, NEW SLICES, AGGREGATES, MAPS. -/
import Derived.Test.YtlpnnoojgbhfaaaGreatDoorMa
import Derived.RangeFuncCalls
import Derived.OrdersIn
import Derived.LoopNIn
import Derived.RangeFuncIn
import Derived.RangeFuncRecord
set_option linter.all false
namespace Go.AM
section
variable {C : Cx} {ρ : Pl} {h h' : Heap} {w : World} {P : Program} {t : Tm} {a : Act}

theorem Sim.of_run' {s s' : Sem Value} {v : AV} (hs : s.run P w = s'.run P w) (h1 : Sim C P ρ h w s' v h') : Sim C P ρ h w s v h' := by
  obtain ⟨ρ', x, w', h2, h3, h4⟩ := h1
  exact ⟨ρ', x, w', hs.trans h2, h3, h4⟩

theorem len_sim {u : AV} {y : Value} {m : Nat} (hu : VR C.st ρ u y) (hl : lenA u = some m) : ∀ w : World, (Builtin.lenOf y).run P w = .ok m w := by
  intro w
  cases u <;> simp only [lenA, Option.some.injEq, reduceCtorEq] at hl <;> simp only [VR] at hu
  · subst hu; subst hl; simp [Builtin.lenOf, ByteArray.size]
  · subst hu; subst hl; simp [Builtin.lenOf]
  · obtain ⟨_, _, _, _, rfl, _⟩ := hu; subst hl; simp [Builtin.lenOf]
  · obtain ⟨_, _, _, rfl, _⟩ := hu; subst hl; simp [Builtin.lenOf]
  · obtain ⟨_, _, rfl⟩ := hu; subst hl; simp [Builtin.lenOf]

theorem sim_copy (hr : Rel C ρ h w) {td tx ty el : TypeId} {e m n : Nat} {u v : AV} {x y : Value} {new : List AV} (hu : P.underlying td = some (.slice el)) (hn : szA P el = some e) (hd : VR C.st ρ u x) (hs : VR C.st ρ v y)
    (h1 : lenA v = some m) (h2 : lenA u = some n) (h3 : sourceA h e v (min m n) = some new)
    (h4 : (match u with | .nilslice | .eslice => some h | .slice b o _ _ e' => if e' = e then writeAt h b o new else none | _ => none) = some h') :
    Sim C P ρ h w (Builtin.copy_ #[td, tx] ty #[x, y]) (goI (min m n)) h' := by
  obtain ⟨ys, g1, g2⟩ := source_sim (P := P) hr hs h3 ⟨m, h1, Nat.min_le_left _ _⟩
  have g3 : (Builtin.firstCells e (min m n) y).run P w = .ok ys.toArray w := g2 w.drawn
  have hlen := len_sim (P := P) hs h1 w
  have key : ∀ (base : Option Addr) (k : Nat), x = .slice base n k → (∀ w', (match base with | some a => storeCells a ys | none => pure ()).run P w = .ok () w' →
      (Builtin.copy_ #[td, tx] ty #[x, y]).run P w = .ok (goInt ((min m n : Nat) : Int)) w') := fun base k hx w' hst => by
    subst hx
    unfold Builtin.copy_
    simp only [List.getElem?_toArray, List.getElem?_cons_zero, List.getElem?_cons_succ, Sem.run_bind, run_underlying hu, Result.andThen_ok, hlen, run_sizeOf hn]
    rw [show Nat.min m n = min m n from rfl, g3]
    simp only [Result.andThen_ok]
    cases base with
    | none => simp only [Sem.run_pure, Result.ok.injEq, true_and] at hst ⊢; exact hst
    | some a => simp only [Sem.run_bind] at hst ⊢; rw [hst]; rfl
  cases u <;> simp only [reduceCtorEq, Option.some.injEq] at h4
  case nilslice =>
    subst h4
    simp only [VR] at hd
    simp only [lenA, Option.some.injEq] at h2; subst h2
    exact Sim.of_run hr (key none 0 hd w rfl) (by simp only [VR, goI]; rfl)
  case eslice =>
    subst h4
    simp only [VR] at hd
    obtain ⟨ad, k, hd⟩ := hd
    simp only [lenA, Option.some.injEq] at h2; subst h2
    refine Sim.of_run hr (key (some ad) k hd w ?_) (by simp only [VR, goI]; rfl)
    have hl := g1.length
    have : new = [] := by
      cases v <;> simp only [sourceA, Nat.min_zero, if_true, reduceCtorEq, Option.some.injEq, List.take_zero, List.map_nil] at h3 <;> first | exact h3.symm | (split at h3 <;> simp_all)
    rw [this] at hl
    have : ys = [] := List.length_eq_zero_iff.1 (by simpa using hl)
    subst this
    simp [storeCells]
  case slice b o nn c e' =>
    by_cases hee : e' = e
    · rw [if_pos hee] at h4
      simp only [VR] at hd
      obtain ⟨B, tot, k, hb, hx, _, _⟩ := hd
      simp only [lenA, Option.some.injEq] at h2; subst h2
      obtain ⟨w', hst, hp⟩ := write_sim (P := P) hr hb g1 h4
      exact ⟨ρ, _, w', key _ k hx w' hst, by simp only [VR, goI]; rfl, hp⟩
    · rw [if_neg hee] at h4; cases h4

theorem sim_makeSlice (hr : Rel C ρ h w) {ty el : TypeId} {e bytes b : Nat} {zs : List AV} {l c : Int} (hu : P.underlying ty = some (.slice el)) (hn : szA P el = some e) (hb : bytesA P el = some bytes) (hz : zeroCs P el = some zs)
    (hzl : zs.length = e) (hc : 0 ≤ l ∧ l ≤ c ∧ c.toNat * bytes ≤ roomA ∧ c ≤ 1048576) (ha : newCells h el (List.flatten (List.replicate c.toNat zs)) = some (b, h')) :
    Sim C P ρ h w (Instr.makeSlice ty (.int .i64 l) (.int .i64 c)) (.slice b 0 l.toNat (some c.toNat) e) h' := by
  obtain ⟨c1, c2, c3, c4⟩ := hc
  obtain ⟨zv, z1, z2, z3⟩ := zeroV_sim hz
  obtain ⟨i, hi1⟩ : ∃ i, (∀ w : World, (typeInfo el).run P w = .ok i w) ∧ i.bytes = bytes := by
    unfold bytesA at hb
    cases hi : P.info? el with
    | none => rw [hi] at hb; cases hb
    | some i => rw [hi] at hb; simp at hb; exact ⟨i, fun w => run_typeInfo hi, hb⟩
  obtain ⟨hi1, hi2⟩ := hi1
  have w1 : IntKind.i64.wrap l = l := IntWalk.i64_in _ (by omega)
  have w2 : IntKind.i64.wrap c = c := IntWalk.i64_in _ (by omega)
  have hbc : ¬ ((bytes : Int) * c > 2 ^ 48) := by
    have : (bytes : Int) * c = ((c.toNat * bytes : Nat) : Int) := by
      rw [Int.natCast_mul, Int.mul_comm, Int.toNat_of_nonneg (by omega)]
    rw [this]
    have h2 : ((c.toNat * bytes : Nat) : Int) ≤ ((roomA : Nat) : Int) := Int.ofNat_le.2 c3
    exact fun hgt => absurd (Int.lt_of_lt_of_le hgt h2) (by unfold roomA; decide)
  obtain ⟨xs, hxs⟩ : ∃ xs : List Value, xs = (List.replicate c.toNat zv.cells.toList).flatten := ⟨_, rfl⟩
  have hlx : xs.length = c.toNat * e := by
    rw [hxs]; simp [z3, hzl]
  obtain ⟨g1, g2, g3⟩ := new_sim' (P := P) hr ha (xs := xs) (by rw [hxs]; exact CR.of_VRs (rep_VRs (z2 C.st ρ) _))
  refine ⟨_, .slice (some ⟨w.heap.size, 0, none⟩) l.toNat c.toNat, _, ?_, ?_, g2⟩
  · unfold Instr.makeSlice
    simp only [Sem.run_bind, run_underlying hu, Result.andThen_ok, asInt, asIntOf, Sem.run_pure, hi1, hi2, w1, w2]
    have t1 : (decide (c < 0) || decide ((bytes : Int) * c > 2 ^ 48)) = false := by
      simp only [Bool.or_eq_false_iff, decide_eq_false_iff_not]
      exact ⟨by omega, hbc⟩
    rw [if_neg (by rw [t1]; simp; omega)]
    simp only [Sem.run_bind, Result.andThen_ok, run_askRoom, run_sizeOf hn]
    have fin : ∀ arr : Array Value, arr.toList = xs → (newRow el arr).run P w = .ok ⟨w.heap.size, 0, none⟩ (w.alloc (.cells xs.toArray el)) := fun arr he => by
      rw [← g1, ← he]
    by_cases h0 : c.toNat * e = 0
    · rw [if_pos h0]
      simp only [Sem.run_bind, Sem.run_pure, Result.andThen_ok]
      have hx0 : xs = [] := List.length_eq_zero_iff.1 (by omega)
      have := fin (Array.map (fun x => (#[] : Array Value)[x % (#[] : Array Value).size]!) (Array.range (c.toNat * e))) (by rw [hx0, h0]; simp)
      rw [this]
      rfl
    · rw [if_neg h0]
      simp only [Sem.run_bind, z1, Result.andThen_ok, Sem.run_pure]
      rw [fin _ (by
        have := range_rep zv.cells c.toNat
        rw [z3, hzl] at this
        rw [z3, hzl, this, hxs])]
      rfl
  · simp only [VR]
    exact ⟨_, _, c.toNat, g3, rfl, by omega, rfl⟩

theorem parts_sim (hg : C.globOK) (ht : TR C.st ρ t a.tmps) {place : Nat → Option (Nat × Nat)} : ∀ {ps : List (Nat × Operand)} {ds : List (Nat × Nat × Opd)}, partsA C.T place ps = some ds →
    PartsR C.st ρ place (evParts t ds) (ps.map fun (i, x) => (i, a.eval x))
  | [], ds, hx => by simp [partsA] at hx; subst hx; simp [evParts, PartsR]
  | (i, o) :: ps, ds, hx => by
    simp only [partsA] at hx
    cases h1 : place i with
    | none => rw [h1] at hx; simp at hx
    | some on =>
      obtain ⟨off, n⟩ := on
      cases h2 : opdA C.T o with
      | none => rw [h1, h2] at hx; simp at hx
      | some d =>
        cases h3 : partsA C.T place ps with
        | none => rw [h1, h2, h3] at hx; simp at hx
        | some r =>
          rw [h1, h2, h3] at hx; cases hx
          simp only [evParts, PartsR, List.map_cons]
          exact ⟨i, _, _, rfl, h1, opd_sim hg ht h2, parts_sim hg ht h3⟩

theorem partsS_sim (hg : C.globOK) (ht : TR C.st ρ t a.tmps) {e : Nat} : ∀ {ps : List (Nat × Operand)} {ds : List (Nat × Opd)}, partsSA C.T ps = some ds →
    PartsR C.st ρ (fun i => some (i * e, e)) (evPartsS e t ds) (ps.map fun (i, x) => (i, a.eval x))
  | [], ds, hx => by simp [partsSA] at hx; subst hx; simp [evPartsS, PartsR]
  | (i, o) :: ps, ds, hx => by
    simp only [partsSA] at hx
    cases h2 : opdA C.T o with
    | none => rw [h2] at hx; simp at hx
    | some d =>
      cases h3 : partsSA C.T ps with
      | none => rw [h2, h3] at hx; simp at hx
      | some r =>
        rw [h2, h3] at hx; cases hx
        simp only [evPartsS, PartsR, List.map_cons]
        exact ⟨i, _, _, rfl, rfl, opd_sim hg ht h2, partsS_sim hg ht h3⟩

theorem toList_map_pair (ps : Array (Nat × Operand)) (f : Operand → Value) : (ps.map fun (i, x) => (i, f x)).toList = ps.toList.map fun (i, x) => (i, f x) := by simp

/-- the places of a struct's fields -/
theorem run_places : ∀ (l : List Field), (∀ f ∈ l, ∃ n, szA P f.type = some n) →
    ∃ r : List (Nat × Nat), (l.mapM (m := Sem) fun f => do pure (f.offset, ← sizeOf f.type)).run P w = .ok r w ∧ r.length = l.length ∧ ∀ (i : Nat) (f : Field), l[i]? = some f → ∃ n, szA P f.type = some n ∧ r[i]? = some (f.offset, n) := by
  intro l
  induction l with
  | nil => intro _; exact ⟨[], by simp, rfl, fun i f hf => by simp at hf⟩
  | cons f l ih =>
    intro hall
    obtain ⟨n, hn⟩ := hall f (by simp)
    obtain ⟨r, h1, h2, h3⟩ := ih (fun g hgm => hall g (by simp [hgm]))
    refine ⟨(f.offset, n) :: r, ?_, by simp [h2], fun i g hgi => ?_⟩
    · simp only [List.mapM_cons, Sem.run_bind, run_sizeOf hn, Result.andThen_ok, Sem.run_pure, h1]
    · cases i with
      | zero => simp at hgi; subst hgi; exact ⟨n, hn, by simp⟩
      | succ i => simp at hgi; obtain ⟨k, hk, hr⟩ := h3 i g hgi; exact ⟨k, hk, by simpa using hr⟩
end
end Go.AM

/- AGGREGATES, MAPS, STRINGS OF BYTES. -/
namespace Go.AM
section
variable {C : Cx} {ρ : Pl} {h h' : Heap} {w : World} {P : Program} {t : Tm} {a : Act}

theorem partsA_place (T : Tb) {place : Nat → Option (Nat × Nat)} : ∀ {ps : List (Nat × Operand)} {ds : List (Nat × Nat × Opd)}, partsA T place ps = some ds → ∀ i o, (i, o) ∈ ps → ∃ x, place i = some x
  | [], _, _, i, o, hin => by cases hin
  | (j, p) :: ps, ds, hx, i, o, hin => by
    simp only [partsA] at hx
    cases h1 : place j with
    | none => rw [h1] at hx; simp at hx
    | some x =>
      cases h2 : opdA T p with
      | none => rw [h1, h2] at hx; simp at hx
      | some d =>
        cases h3 : partsA T place ps with
        | none => rw [h1, h2, h3] at hx; simp at hx
        | some r =>
          rcases List.mem_cons.1 hin with e | hin
          · cases e; exact ⟨x, h1⟩
          · exact partsA_place T h3 i o hin

/-- parts may be placed otherwise, if the places are the same -/
theorem PartsR.place {st : Stab} {p q : Nat → Option (Nat × Nat)} (hpq : ∀ i x, p i = some x → q i = some x) : ∀ {l : List (Nat × Nat × AV)} {ps : List (Nat × Value)}, PartsR st ρ p l ps → PartsR st ρ q l ps
  | [], _, h => h
  | (off, n, v) :: l, _, h => by
    obtain ⟨i, x, r, rfl, h1, h2, h3⟩ := h
    exact ⟨i, x, r, rfl, hpq _ _ h1, h2, PartsR.place hpq h3⟩

theorem sim_build_struct (hg : C.globOK) (hr : Rel C ρ h w) (ht : TR C.st ρ t a.tmps) {ty : TypeId} {fs : Array Field} {z cs : List AV} {ps : Array (Nat × Operand)} {ds : List (Nat × Nat × Opd)}
    (hu : P.underlying ty = some (.struct fs)) (hz : zeroCs P ty = some z) (hall : ∀ f ∈ fs.toList, ∃ n, szA P f.type = some n)
    (hp : partsA C.T (fun i => match fs[i]? with | some f => (szA P f.type).map (fun n => (f.offset, n)) | none => none) ps.toList = some ds)
    (hf : fillA z (evParts t ds) = some cs) : Sim C P ρ h w (Instr.build ty (ps.map fun (i, x) => (i, a.eval x))) (.agg cs) h := by
  obtain ⟨zv, z1, z2, z3⟩ := zeroV_sim hz
  obtain ⟨r, r1, r2, r3⟩ := run_places (P := P) (w := w) fs.toList hall
  have hpr := (parts_sim hg ht hp).place (q := fun i => r.toArray[i]?) (fun i x hx => by
    cases hfi : fs[i]? with
    | none => rw [hfi] at hx; simp at hx
    | some f =>
      rw [hfi] at hx
      simp only at hx
      obtain ⟨n, hn, hri⟩ := r3 i f (by simpa using hfi)
      rw [hn] at hx; simp only [Option.map_some, Option.some.injEq] at hx; subst hx
      simpa using hri)
  obtain ⟨xs, x1, x2⟩ := fill_sim hpr (z2 C.st ρ) hf
  refine Sim.of_run hr (x := .agg xs) ?_ ?_
  · unfold Instr.build
    simp only [Sem.run_bind, z1, Result.andThen_ok, run_underlying hu]
    have hm : (fs.mapM (m := Sem) fun f => do pure (f.offset, ← sizeOf f.type)).run P w = .ok r.toArray w := by
      rw [Array.mapM_eq_mapM_toList]
      simp only [Sem.run_map, r1, Result.andThen_ok]
    simp only [hm, Result.andThen_ok]
    rw [toList_map_pair, x1]
    rfl
  · simp only [VR]
    exact ⟨xs.toList, by simp, x2⟩

theorem sim_build_array (hg : C.globOK) (hr : Rel C ρ h w) (ht : TR C.st ρ t a.tmps) {ty el : TypeId} {len n : Nat} {z cs : List AV} {ps : Array (Nat × Operand)} {ds : List (Nat × Nat × Opd)}
    (hu : P.underlying ty = some (.array len el)) (hz : zeroCs P ty = some z) (hn : szA P el = some n)
    (hp : partsA C.T (fun i => some (i * n, n)) ps.toList = some ds)
    (hf : fillA z (evParts t ds) = some cs) : Sim C P ρ h w (Instr.build ty (ps.map fun (i, x) => (i, a.eval x))) (.agg cs) h := by
  obtain ⟨zv, z1, z2, z3⟩ := zeroV_sim hz
  obtain ⟨xs, x1, x2⟩ := fill_sim (parts_sim hg ht hp) (z2 C.st ρ) hf
  refine Sim.of_run hr (x := .agg xs) ?_ ?_
  · unfold Instr.build
    simp only [Sem.run_bind, z1, Result.andThen_ok, run_underlying hu, run_sizeOf hn]
    rw [toList_map_pair, x1]
    rfl
  · simp only [VR]
    exact ⟨xs.toList, by simp, x2⟩

theorem sim_buildSlice (hg : C.globOK) (hr : Rel C ρ h w) (ht : TR C.st ρ t a.tmps) {ty el : TypeId} {len n b : Nat} {z cs : List AV} {ps : Array (Nat × Operand)} {ds : List (Nat × Opd)}
    (hu : P.underlying ty = some (.slice el)) (hz : zeroCs P el = some z) (hn : szA P el = some n) (hzl : z.length = n) (hmax : len * n ≤ 65536)
    (hp : partsSA C.T ps.toList = some ds) (hf : fillA (List.flatten (List.replicate len z)) (evPartsS n t ds) = some cs) (ha : newCells h el cs = some (b, h')) :
    Sim C P ρ h w (Instr.buildSlice ty len (ps.map fun (i, x) => (i, a.eval x))) (.slice b 0 len (some len) n) h' := by
  obtain ⟨zv, z1, z2, z3⟩ := zeroV_sim hz
  have hzs : zv.cells.size = n := by rw [z3, hzl]
  obtain ⟨arr, harr⟩ : ∃ arr : Array Value, arr = (Array.range (len * n)).map (fun i => zv.cells[i % zv.cells.size]!) := ⟨_, rfl⟩
  have harl : arr.toList = (List.replicate len zv.cells.toList).flatten := by
    rw [harr, ← hzs]; exact range_rep zv.cells len
  obtain ⟨xs, x1, x2⟩ := fill_sim (cells := arr) (partsS_sim hg ht hp) (by rw [harl]; exact rep_VRs (z2 C.st ρ) len) hf
  obtain ⟨g1, g2, g3⟩ := new_sim' (P := P) hr ha (xs := xs.toList) (CR.of_VRs x2)
  refine ⟨_, .slice (some ⟨w.heap.size, 0, none⟩) len len, _, ?_, ?_, g2⟩
  · unfold Instr.buildSlice
    simp only [Sem.run_bind, run_underlying hu, Result.andThen_ok, run_sizeOf hn]
    rw [if_neg (by omega)]
    simp only [Array.toArray_toList] at g1
    by_cases h0 : len * n = 0
    · have he : (Array.map (fun x => (#[] : Array Value)[x % (#[] : Array Value).size]!) (Array.range (len * n))) = arr := by
        rw [harr, h0]; simp
      simp only [Sem.run_bind, h0, if_true, Sem.run_pure, Result.andThen_ok]
      rw [h0] at he
      rw [he, toList_map_pair, x1]
      simp only [Sem.run_bind, g1, Result.andThen_ok, Sem.run_pure]
    · simp only [Sem.run_bind, h0, if_false, z1, Sem.run_pure, Result.andThen_ok]
      rw [← harr, toList_map_pair, x1]
      simp only [Sem.run_bind, g1, Result.andThen_ok, Sem.run_pure]
  · simp only [VR]
    exact ⟨_, _, len, g3, rfl, Nat.le_refl _, rfl⟩

/-! Conversions -/
theorem sim_s2b (hr : Rel C ρ h w) {el b : Nat} {s : List UInt8} (ha : newCellsS h el (s.map byteA) = some (b, h')) :
    Sim C P ρ h w (Conv.stringToBytes el ⟨s.toArray⟩) (.slice b 0 s.length none 1) h' := by
  have hsl : s.length ≤ 4611686018427387904 := by
    unfold newCellsS at ha
    split at ha <;> try (cases ha; done)
    rename_i hh; simpa using hh
  have ha : h.alloc (.cells el (s.map byteA) true 0 []) = some (b, h') := by
    unfold newCellsS at ha; rw [if_pos (by simpa using hsl)] at ha; exact ha
  obtain ⟨c, n, hc, hc63, hch⟩ := cap_draw (P := P) (w := w) (elem := el) s.length 0
  obtain ⟨xs, hxs⟩ : ∃ xs : List Value, xs = s.map (fun b => Value.int .u8 b.toNat) ++ List.replicate (c - s.length) (.int .u8 0) := ⟨_, rfl⟩
  have hxl : xs.length = c := by rw [hxs]; simp; omega
  obtain ⟨w1, hw1⟩ : ∃ w1 : World, w1 = { w with drawn := n } := ⟨_, rfl⟩
  have hr1 : Rel C ρ h w1 := hw1 ▸ hr.drawn n
  have hcr : CR C.st ρ (s.map byteA) xs := fun i a hi => by
    simp only [List.getElem?_map, Option.map_eq_some_iff] at hi
    obtain ⟨bb, hb, rfl⟩ := hi
    have hlt := (List.getElem?_eq_some_iff.1 hb).1
    refine ⟨.int .u8 bb.toNat, ?_, by simp [byteA, VR]⟩
    rw [hxs, List.getElem?_append_left (by simpa using hlt)]
    simp [hb]
  obtain ⟨g1, g2⟩ := Post.alloc (m := c) hr1 ha (o := .cells xs.toArray el (c, c + 1)) ⟨xs, c, c + 1, rfl, hxl, hcr, fun _ => .inr (Nat.le_refl _)⟩ (fun _ _ hin => by cases hin)
  refine ⟨_, .slice (some ⟨w1.heap.size, 0, none⟩) s.length c, w1.alloc (.cells xs.toArray el (c, c + 1)), ?_, ?_, (hw1 ▸ Post.drawn hr n).trans g1⟩
  · unfold Conv.stringToBytes
    have hsz : (⟨s.toArray⟩ : ByteArray).size = s.length := by simp [ByteArray.size]
    simp only [Sem.run_bind, hsz, hch, Result.andThen_ok, ← hw1]
    have harr : (Array.map (fun b : UInt8 => Value.int .u8 b.toNat) s.toArray ++ Array.replicate (c - s.length) (Value.int .u8 0)) = xs.toArray := by
      rw [hxs]; apply Array.ext'; simp
    rw [harr]
    have hfr : ∀ W : World, (W.alloc (.cells xs.toArray el)).freeze ⟨W.heap.size, c, none⟩ 1 = W.alloc (.cells xs.toArray el (c, c + 1)) := fun W => by
      simp only [World.freeze, World.alloc]
      rw [if_neg (by decide)]
      congr 1
      apply Array.ext_getElem?
      intro j
      rw [Array.getElem?_modify]
      simp only [Array.getElem?_push]
      by_cases e : W.heap.size = j
      · subst e; simp
      · rw [if_neg e, if_neg (fun x => e x.symm), if_neg (fun x => e x.symm)]
    simp only [newRow, Sem.run_bind, run_newObj, Result.andThen_ok, Sem.run_pure, World.alloc_eq, markStringish, run_shape]
    have hsh : (w1.alloc (.cells xs.toArray el)).shape? w1.heap.size = some (el, c) := by
      simp only [World.shape?, World.alloc, Array.getElem?_push, if_true]
      simp [hxl]
    rw [hsh]
    simp only [run_freeze, hfr, Result.andThen_ok]
  · simp only [VR]
    exact ⟨_, _, c, g2, rfl, hc, by simp, hc63 (by omega)⟩

theorem sim_b2s (hr : Rel C ρ h w) {u : AV} {y : Value} {s : List UInt8} (hu : VR C.st ρ u y)
    (he : b2sA h u = some s) : Sim C P ρ h w (Conv.bytesToString y) (.str s) h := by
  have e0 : ∀ (ad : Addr) (k : Nat), (Conv.bytesToString (.slice (some ad) 0 k)).run P w = .ok (.string ⟨([] : List UInt8).toArray⟩) w := fun ad k => by
    simp [Conv.bytesToString, loadCells, loadCellsFrom]
    rfl
  cases u <;> simp only [b2sA, reduceCtorEq, Option.some.injEq] at he
  case nilslice =>
    subst he
    simp only [VR] at hu; subst hu
    exact Sim.of_run hr (x := .string .empty) rfl (by simp only [VR]; rfl)
  case eslice =>
    subst he
    simp only [VR] at hu; obtain ⟨ad, k, rfl⟩ := hu
    exact Sim.of_run hr (e0 ad k) (by simp only [VR])
  case slice b o n c e =>
    simp only [VR] at hu; obtain ⟨B, m, k, hb, rfl, _, _⟩ := hu
    by_cases h1 : e = 1
    rotate_left
    · rw [if_neg h1] at he; cases he
    · rw [if_pos h1] at he
      by_cases h0 : n = 0
      · rw [if_pos h0] at he; cases he; subst h0
        exact Sim.of_run hr (e0 _ k) (by simp only [VR])
      · rw [if_neg h0] at he
        cases hrd : readAt h b o n with
        | none => rw [hrd] at he; cases he
        | some cs =>
          rw [hrd] at he
          simp only at he
          obtain ⟨xs, h1, h2, h3⟩ := read_sim hr hb hrd
          obtain ⟨ns, rfl, rfl⟩ := bytesOf_sim h2 he
          have := run_bytesToString (P := P) (k := k) h3
          simp only [List.length_map] at h1
          rw [h1] at this
          exact Sim.of_run hr this (by simp only [VR])
  case pslice cs o n c =>
    simp only [VR] at hu; obtain ⟨B, d, k, rfl, _, _, hp⟩ := hu
    by_cases h0 : n = 0
    · rw [if_pos h0] at he; cases he; subst h0
      exact Sim.of_run hr (e0 _ k) (by simp only [VR])
    · rw [if_neg h0] at he
      cases hrd : cut cs o n with
      | none => rw [hrd] at he; cases he
      | some cs' =>
        rw [hrd] at he
        simp only at he
        obtain ⟨xs, h1, h2, h3⟩ := readP_sim hr hp hrd
        obtain ⟨ns, rfl, rfl⟩ := bytesOf_sim h2 he
        have := run_bytesToString (P := P) (k := k) h3
        simp only [List.length_map] at h1
        rw [h1] at this
        exact Sim.of_run hr this (by simp only [VR])
end
end Go.AM

/- MAPS, TYPE ASSERTIONS, ITERATORS, UNSAFE STRINGS. -/
namespace Go.AM
section
variable {C : Cx} {ρ : Pl} {h h' : Heap} {w : World} {P : Program} {t : Tm} {a : Act}

theorem primEq_ok {p : PK} {v : AV} (hk : (primEq p v v).isSome = true) : (p = .int ∧ ∃ k n, v = .int k n) ∨ (p = .str ∧ ∃ s, v = .str s) ∨ (p = .bool ∧ ∃ b, v = .bool b) := by
  cases p <;> cases v <;> simp [primEq] at hk ⊢

theorem checkKey_prim {ty : TypeId} {p : PK} {x : Value} {e : Bool} {n : Nat} (hp : pkOf P ty = some p) : (Instr.checkKey e (n + 1) ty x).run P w = .ok () w := by
  unfold pkOf at hp
  cases hty : P.underlying ty with
  | none => rw [hty] at hp; cases hp
  | some de =>
    rw [hty] at hp
    cases de <;> simp only [reduceCtorEq] at hp <;> simp [Instr.checkKey, run_underlying hty]

/-- a part of a key can be held against others -/
def CkF (C : Cx) (ρ : Pl) (w : World) (P : Program) (e : Bool) (dd : Nat) (ty : TypeId) (ks : List PK) : Prop := ∀ (xs : List Value) (i : Nat) (u : List AV), u.length = ks.length → CS C.st ρ u xs i →
  ∃ a, (part ty xs.toArray i).run P w = .ok a w ∧ (Instr.checkKey e dd ty a).run P w = .ok () w

theorem checkKey_fields {e : Bool} {dd : Nat} {F : TypeId → Option (List PK)} {xs : List Value} (hF : ∀ ty k, F ty = some k → szA P ty = some k.length → CkF C ρ w P e dd ty k) : ∀ {fs : List Field} {i : Nat} {ks : List PK} {u : List AV},
    fieldsF F (szA P) i fs = some ks → u.length = ks.length → CS C.st ρ u xs i →
    (forIn (m := Sem) fs PUnit.unit fun f _ => (if f.name ≠ "_" then (do Instr.checkKey e dd f.type (← part f.type xs.toArray f.offset); pure (ForInStep.yield PUnit.unit)) else pure (ForInStep.yield PUnit.unit))).run P w = .ok PUnit.unit w
  | [], i, ks, u, _, _, _ => by simp
  | f :: fs, i, ks, u, hk, hl, hx => by
    simp only [fieldsF] at hk
    by_cases hc : f.name ≠ "_" ∧ f.offset = i
    · rw [if_pos hc] at hk
      cases hp : F f.type with
      | none => rw [hp] at hk; simp at hk
      | some k1 =>
        rw [hp] at hk
        simp only at hk
        by_cases hs : szA P f.type = some k1.length
        · rw [if_pos hs] at hk
          cases hps : fieldsF F (szA P) (i + k1.length) fs with
          | none => rw [hps] at hk; simp at hk
          | some k2 =>
            rw [hps] at hk; cases hk
            rw [List.length_append] at hl
            obtain ⟨a, e1, e2⟩ := hF _ _ hp hs xs i (u.take k1.length) (by rw [List.length_take]; omega) (hx.take _)
            simp only [List.forIn_cons, Sem.run_bind, hc.1, ne_eq, not_false_eq_true, if_true, hc.2, e1, Result.andThen_ok, e2, Sem.run_pure]
            exact checkKey_fields hF hps (by rw [List.length_drop]; omega) (hx.drop _)
        · rw [if_neg hs] at hk; cases hk
    · rw [if_neg hc] at hk; cases hk

theorem checkKey_items {e : Bool} {dd m : Nat} {el : TypeId} {ks : List PK} {xs : List Value} (hF : CkF C ρ w P e dd el ks) (hm : ks.length = m) (hn : szA P el = some m) : ∀ {n i : Nat} {u : List AV},
    u.length = n * m → CS C.st ρ u xs (i * m) →
    (forIn (m := Sem) (List.range' i n) PUnit.unit fun j _ => (do Instr.checkKey e dd el (← part el xs.toArray (j * (← sizeOf el))); pure (ForInStep.yield PUnit.unit))).run P w = .ok PUnit.unit w
  | 0, i, u, _, _ => by simp
  | n + 1, i, u, hl, hx => by
    rw [Nat.add_mul, Nat.one_mul] at hl
    have hd : (u.drop m).length = n * m := by rw [List.length_drop]; omega
    obtain ⟨a, e1, e2⟩ := hF xs (i * m) (u.take m) (by rw [List.length_take]; omega) (hx.take _)
    rw [List.range'_succ]
    have hi : i * m + m = (i + 1) * m := by rw [Nat.add_mul]; omega
    simp only [List.forIn_cons, Sem.run_bind, run_sizeOf hn, Result.andThen_ok, e1, e2, Sem.run_pure]
    exact checkKey_items hF hm hn hd (by rw [← hi]; exact hx.drop _)

theorem checkKey_struct {ty : TypeId} {fs : Array Field} {e : Bool} {xs : Array Value} (n : Nat) (h1 : P.underlying ty = some (.struct fs)) :
    (Instr.checkKey e (n + 1) ty (.agg xs)).run P w = (do
      let _ ← (forIn (m := Sem) fs.toList PUnit.unit fun f _ => (if f.name ≠ "_" then (do Instr.checkKey e n f.type (← part f.type xs f.offset); pure (ForInStep.yield PUnit.unit)) else pure (ForInStep.yield PUnit.unit)))
      pure () : Sem Unit).run P w := by
  simp only [Instr.checkKey, Sem.run_bind, run_underlying h1, Result.andThen_ok]
  rw [← Array.forIn_toList]

theorem checkKey_array {ty el : TypeId} {len : Nat} {e : Bool} {xs : Array Value} (n : Nat) (h1 : P.underlying ty = some (.array len el)) :
    (Instr.checkKey e (n + 1) ty (.agg xs)).run P w = (do
      let _ ← (forIn (m := Sem) (List.range' 0 len) PUnit.unit fun j _ => (do Instr.checkKey e n el (← part el xs (j * (← sizeOf el))); pure (ForInStep.yield PUnit.unit)))
      pure () : Sem Unit).run P w := by
  simp only [Instr.checkKey, Sem.run_bind, run_underlying h1, Result.andThen_ok]
  simp only [Std.Legacy.Range.forIn_eq_forIn_range', Std.Legacy.Range.size, Nat.sub_zero, Nat.add_one_sub_one, Nat.div_one]

theorem ckF_part {e : Bool} {d n : Nat} {ty : TypeId} {ks : List PK} (hf : flatF P (n + 1) ty = some ks) (hs : szA P ty = some ks.length)
    (hA : isAggA P ty = some true → ∀ {xs : List Value} {u : List AV}, u.length = ks.length → CS C.st ρ u xs 0 → (Instr.checkKey e (d + (n + 1)) ty (.agg xs.toArray)).run P w = .ok () w) :
    CkF C ρ w P e (d + (n + 1)) ty ks := by
  intro xs i u hl hx
  cases hp : pkOf P ty with
  | some p =>
    simp only [flatF, hp, Option.some.injEq] at hf
    subst hf
    match u, hl with
    | [u0], _ =>
      obtain ⟨x, hx1, _⟩ := hx 0 u0 rfl
      rw [Nat.add_zero] at hx1
      exact ⟨x, part_sim (by rw [hp]; rfl) hx1, checkKey_prim hp⟩
  | none =>
    have hg := flatF_agg hf hp
    exact ⟨_, part_agg hg hs, hA hg hl (hx.cut (by omega))⟩

theorem flatF_check {e : Bool} : ∀ {n d : Nat} {ty : TypeId} {ks : List PK}, flatF P n ty = some ks → isAggA P ty = some true → ∀ {xs : List Value} {u : List AV}, u.length = ks.length → CS C.st ρ u xs 0 →
    (Instr.checkKey e (d + n) ty (.agg xs.toArray)).run P w = .ok () w
  | 0, d, ty, ks, hf, _, xs, u, _, _ => by simp [flatF] at hf
  | n + 1, d, ty, ks, hf, hg, xs, u, hl, hx => by
    have hp : pkOf P ty = none := by
      cases hp : pkOf P ty with
      | none => rfl
      | some p => rw [isAgg_of_pk hp] at hg; cases hg
    have ih : ∀ ty k, flatF P n ty = some k → szA P ty = some k.length → CkF C ρ w P e (d + n) ty k := fun ty k h1 h2 => by
      cases n with
      | zero => simp [flatF] at h1
      | succ n => exact ckF_part h1 h2 (fun hg => flatF_check h1 hg)
    simp only [flatF, hp] at hf
    cases hty : P.underlying ty with
    | none => rw [hty] at hf; simp at hf
    | some de =>
      rw [hty] at hf
      cases de <;> simp only [reduceCtorEq] at hf
      case struct fs =>
        by_cases hst : P.stoodInHeld ty = true
        · rw [if_pos hst] at hf; cases hf
        · rw [if_neg hst] at hf
          rw [show d + (n + 1) = (d + n) + 1 from rfl, checkKey_struct (d + n) hty, Sem.run_bind, checkKey_fields ih hf hl hx]
          rfl
      case array len el =>
        split at hf
        · rename_i k1 m h1 h2
          by_cases hl1 : k1.length = m
          · rw [if_pos hl1] at hf; cases hf
            have hlen : u.length = len * m := by
              rw [hl, List.length_flatten, List.map_replicate, List.sum_replicate_nat, hl1]
            rw [show d + (n + 1) = (d + n) + 1 from rfl, checkKey_array (d + n) hty, Sem.run_bind, checkKey_items (ih el k1 h1 (by rw [h2, hl1])) hl1 h2 hlen (by rw [Nat.zero_mul]; exact hx)]
            rfl
          · rw [if_neg hl1] at hf; cases hf
        · cases hf

theorem checkKey_sim {ty : TypeId} {kk : KeyK} {v : AV} {x : Value} {e : Bool} (hk : keyK P ty = some kk) (hok : keyOK kk v = true) (hv : VR C.st ρ v x) : (Instr.checkKey e 10000 ty x).run P w = .ok () w := by
  unfold keyK at hk
  cases hp : pkOf P ty with
  | some p => exact checkKey_prim (n := 9999) hp
  | none =>
    rw [hp] at hk
    simp only [Option.map_eq_some_iff] at hk
    obtain ⟨ks, hks, rfl⟩ := hk
    cases v <;> simp only [keyOK, Bool.false_eq_true] at hok
    rename_i cs
    obtain ⟨h1, _, h3, _⟩ := flatT_facts hks
    simp only [VR] at hv
    obtain ⟨xs, rfl, hxs⟩ := hv
    obtain ⟨r, hr⟩ := Option.isSome_iff_exists.1 hok
    exact flatF_check (d := 9992) h3 h1 (flatEq_len hr).1 (CS.of_VRs hxs)

/-- where a key is found -/
def FoundAt (st : Stab) (ρ : Pl) (kk : KeyK) (k : AV) (es : List (AV × AV)) (i : Nat) : Option AV → Option (Nat × Value) → Prop
  | none, q => q = none ∧ ∀ v, putA kk k v es = some (es ++ [(k, v)])
  | some v, q => ∃ j x k', q = some (i + j, x) ∧ VR st ρ v x ∧ es[j]? = some (k', v) ∧ keyEq kk k k' = some true ∧ ∀ u, putA kk k u es = some (es.set j (k, u))

theorem FoundAt.cons {st : Stab} {kk : KeyK} {k k0 v0 : AV} {es : List (AV × AV)} {i : Nat} {r : Option AV} {q : Option (Nat × Value)} (hne : keyEq kk k k0 = some false) (h : FoundAt st ρ kk k es (i + 1) r q) :
    FoundAt st ρ kk k ((k0, v0) :: es) i r q := by
  cases r with
  | none =>
    obtain ⟨h1, h2⟩ := h
    exact ⟨h1, fun v => by simp only [putA, hne, h2 v, Option.map_some, List.cons_append]⟩
  | some v =>
    obtain ⟨j, x, k', h1, h2, h3, h4, h5⟩ := h
    exact ⟨j + 1, x, k', by rw [h1]; congr 2; omega, h2, by simpa using h3, h4, fun u => by simp only [putA, hne, h5 u, Option.map_some, List.set_cons_succ]⟩

theorem find_sim {kt : TypeId} {kk : KeyK} {k : AV} {kv : Value} (hk : keyK P kt = some kk) (hkv : VR C.st ρ k kv) : ∀ {es : List (AV × AV)} {E : List MapEntry} {r : Option AV} (i : Nat), ER C.st ρ kk es E → lookA kk k es = some r →
    ∃ q, (Instr.findAsking kt kv E i).run P w = .ok q w ∧ FoundAt C.st ρ kk k es i r q
  | [], E, r, i, hE, hl => by
    simp only [ER] at hE; subst hE
    simp only [lookA, Option.some.injEq] at hl; subst hl
    exact ⟨none, by simp [Instr.findAsking], rfl, fun v => rfl⟩
  | (k', v') :: es, E, r, i, hE, hl => by
    simp only [ER] at hE
    obtain ⟨e, rr, rfl, h1, h2, h3, h4⟩ := hE
    simp only [lookA] at hl
    cases hq : keyEq kk k k' with
    | none => rw [hq] at hl; cases hl
    | some b =>
      rw [hq] at hl
      have heq : (Op.equal kt kv e.key).run P w = .ok b w := key_sim (d := 9992) hk hkv h1 hq
      simp only [Instr.findAsking, Sem.run_bind, heq, Result.andThen_ok]
      cases b with
      | true =>
        simp only [Option.some.injEq] at hl; subst hl
        exact ⟨_, by simp only [if_true, Sem.run_pure]; rfl, 0, e.val, k', rfl, h3, rfl, hq, fun u => by simp only [putA, hq, List.set_cons_zero]⟩
      | false =>
        simp only at hl
        obtain ⟨q, q1, q2⟩ := find_sim hk hkv (i + 1) h4 hl
        exact ⟨q, by simpa using q1, FoundAt.cons hq q2⟩

theorem sameNow_prim {kt : TypeId} {p : PK} {de : TypeDesc} {k k' : AV} {x y : Value} {b : Bool} (hty : P.underlying kt = some de) (hp : pkOf P kt = some p) (hx : VR C.st ρ k x) (hy : VR C.st ρ k' y) (hq : primEq p k k' = some b) :
    Instr.sameNow de x y = some b := by
  unfold pkOf at hp
  rw [hty] at hp
  cases de <;> simp only [Option.some.injEq, reduceCtorEq] at hp <;> subst hp <;> cases k <;> cases k' <;> simp only [primEq, reduceCtorEq] at hq <;> simp only [VR] at hx hy <;> subst hx <;> subst hy
  · cases hq; rfl
  · rename_i kk j n k m
    by_cases hjk : j = k
    · rw [if_pos hjk] at hq; cases hq; simp [Instr.sameNow, hjk]
    · rw [if_neg hjk] at hq; cases hq
  · cases hq
    simp only [Instr.sameNow, beqB_eq]
    congr 1
    rw [beq_toListBytes, ByteArray.toList_mk, ByteArray.toList_mk]

theorem findNow_sim {kt : TypeId} {p : PK} {de : TypeDesc} {k : AV} {kv : Value} (hty : P.underlying kt = some de) (hp : pkOf P kt = some p) (hkv : VR C.st ρ k kv) : ∀ {es : List (AV × AV)} {E : List MapEntry} {r : Option AV} (i : Nat), ER C.st ρ (.prim p) es E → lookA (.prim p) k es = some r →
    ∃ q, Instr.findNow de kv E i = some q ∧ FoundAt C.st ρ (.prim p) k es i r q
  | [], E, r, i, hE, hl => by
    simp only [ER] at hE; subst hE
    simp only [lookA, Option.some.injEq] at hl; subst hl
    exact ⟨none, rfl, rfl, fun v => rfl⟩
  | (k', v') :: es, E, r, i, hE, hl => by
    simp only [ER] at hE
    obtain ⟨e, rr, rfl, h1, h2, h3, h4⟩ := hE
    simp only [lookA] at hl
    cases hq : keyEq (.prim p) k k' with
    | none => rw [hq] at hl; cases hl
    | some b =>
      rw [hq] at hl
      have heq : Instr.sameNow de kv e.key = some b := sameNow_prim hty hp hkv h1 (by simpa only [keyEq] using hq)
      cases b with
      | true =>
        simp only [Option.some.injEq] at hl; subst hl
        exact ⟨some (i, e.val), by simp only [Instr.findNow, heq], 0, e.val, k', rfl, h3, rfl, hq, fun u => by simp only [putA, hq, List.set_cons_zero]⟩
      | false =>
        simp only at hl
        obtain ⟨q, q1, q2⟩ := findNow_sim hty hp hkv (i + 1) h4 hl
        exact ⟨q, by simp only [Instr.findNow, heq, q1], FoundAt.cons hq q2⟩

theorem findKey_sim {kt : TypeId} {kk : KeyK} {k : AV} {kv : Value} (hk : keyK P kt = some kk) (hkv : VR C.st ρ k kv) {es : List (AV × AV)} {E : List MapEntry} {r : Option AV} (hE : ER C.st ρ kk es E) (hl : lookA kk k es = some r) :
    ∃ q, (Instr.findKey kt kv E).run P w = .ok q w ∧ FoundAt C.st ρ kk k es 0 r q := by
  have hk' := hk
  unfold keyK at hk
  cases hp : pkOf P kt with
  | some p =>
    rw [hp] at hk; cases hk
    obtain ⟨de, hty⟩ : ∃ de, P.underlying kt = some de := by
      unfold pkOf at hp
      cases hty : P.underlying kt with
      | none => rw [hty] at hp; cases hp
      | some de => exact ⟨de, rfl⟩
    obtain ⟨q, q1, q2⟩ := findNow_sim hty hp hkv 0 hE hl
    exact ⟨q, by simp only [Instr.findKey, Sem.run_bind, run_underlying hty, Result.andThen_ok, q1, Sem.run_pure], q2⟩
  | none =>
    rw [hp] at hk
    simp only [Option.map_eq_some_iff] at hk
    obtain ⟨ks, hks, rfl⟩ := hk
    obtain ⟨_, _, _, de, f1, f2⟩ := flatT_facts hks
    cases E with
    | nil =>
      cases es with
      | nil =>
        simp only [lookA, Option.some.injEq] at hl; subst hl
        exact ⟨none, by rcases f2 with ⟨_, rfl⟩ | ⟨_, _, rfl⟩ <;> simp [Instr.findKey, run_underlying f1, Instr.findNow], rfl, fun v => rfl⟩
      | cons x es => obtain ⟨x1, x2⟩ := x; simp only [ER] at hE; obtain ⟨_, _, h, _⟩ := hE; cases h
    | cons e E =>
      obtain ⟨q, q1, q2⟩ := find_sim (P := P) (w := w) hk' hkv 0 hE hl
      refine ⟨q, ?_, q2⟩
      rcases f2 with ⟨_, rfl⟩ | ⟨_, _, rfl⟩
      · simp only [Instr.findKey, Sem.run_bind, run_underlying f1, Result.andThen_ok, Instr.findNow, Instr.sameNow]
        exact q1
      · simp only [Instr.findKey, Sem.run_bind, run_underlying f1, Result.andThen_ok, Instr.findNow, Instr.sameNow]
        exact q1

def foundV (zv : Value) : Option (Nat × Value) → Value
  | some (_, v) => v
  | none => zv

theorem VR.okV {ok b : Bool} {v : AV} {x : Value} (h : VR C.st ρ v x) : VR C.st ρ (okV ok v b) (if ok = true then Value.tuple #[x, .bool b] else x) := by
  cases ok
  · exact h
  · simp only [AM.okV, if_true, VR, VRs]
    exact ⟨[x, .bool b], rfl, x, [.bool b], rfl, h, .bool b, [], rfl, rfl, rfl⟩

theorem sim_lookup (hr : Rel C ρ h w) {ty kt el : TypeId} {kk : KeyK} {z m k : AV} {x y : Value} {r : AV} {ok : Bool} (hu : P.underlying ty = some (.map kt el)) (hk : keyK P kt = some kk) (hz : zeroA P el = some z) (hm : VR C.st ρ m x) (hkv : VR C.st ρ k y)
    (hok : keyOK kk k = true) (he : (match m with | .map b => (match h.get b with | some (.map kk' es) => if kk' = kk then (match lookA kk k es with | some (some v) => some (okV ok v true) | some none => some (okV ok z false) | none => none) else none | _ => none) | .nilmap => some (okV ok z false) | _ => none) = some r) :
    Sim C P ρ h w (Instr.lookup ty x y ok) r h := by
  obtain ⟨zv, z1, z2, _⟩ := zeroA_sim (w := w) hz
  have ck : ∀ e, (Instr.checkKey e 10000 kt y).run P w = .ok () w := fun e => checkKey_sim hk hok hkv
  have fin : ∀ (E : List MapEntry) (q : Option (Nat × Value)), (Instr.findKey kt y E).run P w = .ok q w →
      (do
        Instr.checkKey E.toArray.isEmpty 10000 kt y
        let (v, b) ← match ← Instr.findKey kt y E.toArray.toList with
          | some (_, v) => pure (v, true)
          | none => do pure (← zeroValue el, false)
        pure (if ok = true then Value.tuple #[v, .bool b] else v) : Sem Value).run P w = .ok (if ok = true then Value.tuple #[foundV zv q, .bool q.isSome] else foundV zv q) w := fun E q hq => by
    simp only [Sem.run_bind, ck, Result.andThen_ok, hq]
    cases q with
    | none => simp only [Sem.run_bind, z1, Result.andThen_ok, Sem.run_pure]; rfl
    | some p => obtain ⟨j, u⟩ := p; rfl
  cases m <;> simp only [reduceCtorEq, Option.some.injEq] at he
  case nilmap =>
    subst he
    simp only [VR] at hm; subst hm
    obtain ⟨q, q1, q2⟩ := findKey_sim (P := P) (w := w) hk hkv (es := []) (E := []) (r := none) rfl rfl
    obtain ⟨rfl, _⟩ := q2
    refine Sim.of_run hr (x := if ok = true then Value.tuple #[zv, .bool false] else zv) ?_ (VR.okV (z2 _ _))
    have := fin [] none q1
    unfold Instr.lookup
    simp only [Sem.run_bind, run_underlying hu, Result.andThen_ok, Sem.run_pure] at this ⊢
    exact this
  case map b =>
    simp only [VR] at hm
    obtain ⟨B, tot, hb, rfl⟩ := hm
    obtain ⟨_, _, ao, oo, h1, h2, h3⟩ := hr.dom b B tot hb
    rw [h1] at he
    cases ao <;> simp only [reduceCtorEq] at he
    rename_i kk' es
    by_cases hkk : kk' = kk
    · rw [if_pos hkk] at he
      subst hkk
      obtain ⟨E, ck', rfl, hE⟩ := h3
      have hget : (getObj B).run P w = .ok (.map E.toArray ck') w := by simp [getObj, Sem.run, h2]
      cases hl : lookA kk' k es with
      | none => rw [hl] at he; cases he
      | some rr =>
        rw [hl] at he
        obtain ⟨q, q1, q2⟩ := findKey_sim (P := P) (w := w) hk hkv hE hl
        have go : VR C.st ρ r (if ok = true then Value.tuple #[foundV zv q, .bool q.isSome] else foundV zv q) → Sim C P ρ h w (Instr.lookup ty (.map (some B)) y ok) r h := fun hvr => by
          refine Sim.of_run hr ?_ hvr
          have := fin E q q1
          unfold Instr.lookup
          simp only [Sem.run_bind, run_underlying hu, Result.andThen_ok, hget, Sem.run_pure] at this ⊢
          exact this
        cases rr with
        | none =>
          simp only [Option.some.injEq] at he; subst he
          obtain ⟨rfl, _⟩ := q2
          exact go (VR.okV (z2 _ _))
        | some v =>
          simp only [Option.some.injEq] at he; subst he
          obtain ⟨j, x, k', rfl, hx, _⟩ := q2
          exact go (VR.okV hx)
    · rw [if_neg hkk] at he; cases he

theorem ER_length {st : Stab} {kk : KeyK} : ∀ {es : List (AV × AV)} {E : List MapEntry}, ER st ρ kk es E → E.length = es.length
  | [], E, hE => by simp only [ER] at hE; subst hE; rfl
  | (k0, v0) :: es, E, hE => by
    obtain ⟨e, r, rfl, _, _, _, h4⟩ := hE
    simp [ER_length h4]

theorem sameBits_prim {p : PK} {k k' : AV} {x y : Value} (hx : VR C.st ρ k x) (hy : VR C.st ρ k' y) (hq : primEq p k k' = some true) (n : Nat) : Instr.sameBits n y x = true := by
  cases p <;> cases k <;> cases k' <;> simp only [primEq, reduceCtorEq] at hq <;> simp only [VR] at hx hy <;> subst hx <;> subst hy
  · rename_i j a k b
    by_cases hjk : j = k
    · rw [if_pos hjk] at hq; subst hjk
      have : a = b := by simpa using hq
      subst this; cases n <;> simp [Instr.sameBits]
    · rw [if_neg hjk] at hq; cases hq
  · rw [beqB_eq] at hq
    have := by simpa using hq
    subst this
    have e : ∀ z : ByteArray, (z == z) = true := fun z => by rw [beq_toListBytes]; simp
    cases n <;> simp only [Instr.sameBits, e]
  · have := by simpa using hq
    subst this; cases n <;> simp [Instr.sameBits]

theorem sameBits_flat {n : Nat} : ∀ {ks : List PK} {u v : List AV} {xs ys : List Value}, VRs C.st ρ u xs → VRs C.st ρ v ys → flatEq ks u v = some true →
    xs.length = ys.length ∧ (ys.zip xs).all (fun (x, y) => Instr.sameBits n x y) = true
  | [], u, v, xs, ys, hx, hy, hq => by
    cases u <;> cases v <;> simp [flatEq] at hq
    simp only [VRs] at hx hy; subst hx; subst hy; exact ⟨rfl, rfl⟩
  | p :: ks, u, v, xs, ys, hx, hy, hq => by
    cases u with
    | nil => simp [flatEq] at hq
    | cons u0 u =>
      cases v with
      | nil => simp [flatEq] at hq
      | cons v0 v =>
        simp only [flatEq] at hq
        cases h1 : primEq p u0 v0 with
        | none => rw [h1] at hq; simp at hq
        | some r1 =>
          cases h2 : flatEq ks u v with
          | none => rw [h1, h2] at hq; simp at hq
          | some r2 =>
            rw [h1, h2] at hq
            simp only [Option.some.injEq, Bool.and_eq_true] at hq
            obtain ⟨rfl, rfl⟩ := hq
            simp only [VRs] at hx hy
            obtain ⟨x, xr, rfl, hx1, hx2⟩ := hx
            obtain ⟨y, yr, rfl, hy1, hy2⟩ := hy
            obtain ⟨l1, l2⟩ := sameBits_flat (n := n) hx2 hy2 h2
            refine ⟨by simp [l1], ?_⟩
            rw [List.zip_cons_cons, List.all_cons, l2]
            simp only [sameBits_prim hx1 hy1 h1 n, Bool.and_self]

theorem sameBits_key {kk : KeyK} {k k' : AV} {x y : Value} (hx : VR C.st ρ k x) (hy : VR C.st ρ k' y) (hq : keyEq kk k k' = some true) : Instr.sameBits 10000 y x = true := by
  cases kk with
  | prim p => exact sameBits_prim hx hy (by simpa only [keyEq] using hq) _
  | flat ks =>
    cases k <;> cases k' <;> simp only [keyEq, reduceCtorEq] at hq
    simp only [VR] at hx hy
    obtain ⟨xs, rfl, hxs⟩ := hx
    obtain ⟨ys, rfl, hys⟩ := hy
    obtain ⟨l1, l2⟩ := sameBits_flat (n := 9999) hxs hys hq
    have : ∀ n (a b : Array Value), Instr.sameBits (n + 1) (.agg a) (.agg b) = (a.size == b.size && (a.toList.zip b.toList).all fun (x, y) => Instr.sameBits n x y) := fun n a b => by simp only [Instr.sameBits]
    rw [show (10000 : Nat) = 9999 + 1 from rfl, this]
    simp [l1] at l2 ⊢
    exact l2

theorem ER_get {kk : KeyK} : ∀ {es : List (AV × AV)} {E : List MapEntry} {j : Nat} {k v : AV}, ER C.st ρ kk es E → es[j]? = some (k, v) → ∃ e, E[j]? = some e ∧ VR C.st ρ k e.key ∧ VR C.st ρ v e.val
  | [], _, j, k, v, _, hj => by simp at hj
  | (k0, v0) :: es, E, 0, k, v, hE, hj => by
    obtain ⟨e, r, rfl, h1, _, h2, _⟩ := hE
    simp at hj; obtain ⟨rfl, rfl⟩ := hj; exact ⟨e, rfl, h1, h2⟩
  | (k0, v0) :: es, E, j + 1, k, v, hE, hj => by
    obtain ⟨e, r, rfl, _, _, _, h3⟩ := hE
    simp at hj
    obtain ⟨e', g1, g2⟩ := ER_get h3 hj
    exact ⟨e', by simpa using g1, g2⟩

theorem ER_set {kk : KeyK} {k v : AV} {x y : Value} (hk : keyOK kk k = true) (hx : VR C.st ρ k x) (hy : VR C.st ρ v y) : ∀ {es : List (AV × AV)} {E : List MapEntry} {j : Nat}, ER C.st ρ kk es E → j < es.length →
    ER C.st ρ kk (es.set j (k, v)) (E.modify j fun e => { e with key := x, val := y })
  | [], _, j, _, hj => by simp at hj
  | (k0, v0) :: es, E, 0, hE, _ => by
    obtain ⟨e, r, rfl, h1, h2, h3, h4⟩ := hE
    exact ⟨_, _, rfl, hx, hk, hy, h4⟩
  | (k0, v0) :: es, E, j + 1, hE, hj => by
    obtain ⟨e, r, rfl, h1, h2, h3, h4⟩ := hE
    exact ⟨e, _, rfl, h1, h2, h3, ER_set hk hx hy h4 (by simpa using hj)⟩

theorem ER_push {kk : KeyK} {k v : AV} {e0 : MapEntry} (hk : keyOK kk k = true) (hx : VR C.st ρ k e0.key) (hy : VR C.st ρ v e0.val) : ∀ {es : List (AV × AV)} {E : List MapEntry}, ER C.st ρ kk es E →
    ER C.st ρ kk (es ++ [(k, v)]) (E ++ [e0])
  | [], E, hE => by simp only [ER] at hE; subst hE; exact ⟨e0, [], rfl, hx, hk, hy, rfl⟩
  | (k0, v0) :: es, E, hE => by
    obtain ⟨e, r, rfl, h1, h2, h3, h4⟩ := hE
    exact ⟨e, _, rfl, h1, h2, h3, ER_push hk hx hy h4⟩

theorem putA_look {kk : KeyK} {k v : AV} : ∀ {es es' : List (AV × AV)}, putA kk k v es = some es' → ∃ r, lookA kk k es = some r
  | [], _, _ => ⟨none, rfl⟩
  | (k', v') :: es, es', h => by
    simp only [putA] at h
    simp only [lookA]
    cases hq : keyEq kk k k' with
    | none => rw [hq] at h; cases h
    | some b =>
      rw [hq] at h
      cases b with
      | true => exact ⟨_, rfl⟩
      | false =>
        simp only [Option.map_eq_some_iff] at h
        obtain ⟨r, hr, _⟩ := h
        exact putA_look hr

theorem sim_mapUpdate (hr : Rel C ρ h w) {ty kt el : TypeId} {kk : KeyK} {k u : AV} {x y z : Value} {b : Nat} {es es' : List (AV × AV)} (hu : P.underlying ty = some (.map kt el)) (hk : keyK P kt = some kk) (hm : VR C.st ρ (.map b) x) (hkv : VR C.st ρ k y)
    (huv : VR C.st ρ u z) (hok : keyOK kk k = true) (hg : h.get b = some (.map kk es)) (hp : putA kk k u es = some es') :
    ∃ w', (Instr.mapUpdate ty x y z).run P w = .ok () w' ∧ Post C ρ h w ρ (h.set b (.map kk es')) w' := by
  simp only [VR] at hm
  obtain ⟨B, tot, hb, rfl⟩ := hm
  obtain ⟨hbn, hBN, ao, oo, h1, h2, h3⟩ := hr.dom b B tot hb
  rw [hg] at h1; cases h1
  obtain ⟨E, ck, rfl, hE⟩ := h3
  have hroom := hr.room
  have hget : (getObj B).run P w = .ok (.map E.toArray ck) w := by simp [getObj, Sem.run, h2]
  have hset : ∀ o, (setObj B o).run P w = .ok () (w.putObj B o) := fun o => by simp [setObj, Sem.run, h2, World.putObj]
  have put : ∀ E' ck', ER C.st ρ kk es' E' → Post C ρ h w ρ (h.set b (.map kk es')) (w.putObj B (.map E'.toArray ck')) := fun E' ck' hE' => by
    refine Post.put (ao' := .map kk es') hr hb hg rfl rfl (fun j hj hne => .inl ?_) (by rw [Heap.get_set (by omega) (by omega), if_pos rfl]) rfl ⟨E', ck', rfl, hE'⟩ ?_
    · rw [Heap.get_set (by omega) hj, if_neg (fun e => hne e.symm)]
    · intro b2 m2 ty cs frz anc n o _ _ _ hin; cases hin
  obtain ⟨r, hl⟩ := putA_look hp
  obtain ⟨q, q1, q2⟩ := findKey_sim (P := P) (w := w) hk hkv hE hl
  have ckk : (Instr.checkKey false 10000 kt y).run P w = .ok () w := checkKey_sim hk hok hkv
  cases r with
  | none =>
    obtain ⟨rfl, q3⟩ := q2
    rw [q3 u] at hp; cases hp
    refine ⟨w.putObj B (.map (E ++ [({ key := y, val := z, born := ck } : MapEntry)]).toArray (ck + 1)), ?_, put _ _ (ER_push hok hkv huv hE)⟩
    unfold Instr.mapUpdate
    simp only [Sem.run_bind, run_underlying hu, Result.andThen_ok, hget, ckk, q1, hset]
    congr 2
    simp
  | some v0 =>
    obtain ⟨j, x0, k', rfl, hx0, hj, hkeq, q3⟩ := q2
    rw [q3 u] at hp; cases hp
    obtain ⟨e, he1, he2, _⟩ := ER_get hE hj
    have hjl : j < es.length := (List.getElem?_eq_some_iff.1 hj).1
    refine ⟨w.putObj B (.map (E.modify j (fun e0 : MapEntry => ({ e0 with key := y, val := z } : MapEntry))).toArray ck), ?_, put _ _ (ER_set hok hkv huv hE hjl)⟩
    unfold Instr.mapUpdate
    have hstay : (Instr.keyThatStays e.key y).run P w = .ok y w := by
      simp only [Instr.keyThatStays, sameBits_key hkv he2 hkeq, if_true, Sem.run_pure]
    simp only [Sem.run_bind, run_underlying hu, Result.andThen_ok, hget, ckk, q1, Nat.zero_add, List.getElem?_toArray, he1, Option.map_some, Option.getD_some, hstay, hset]
    congr 2
    simp

end
end Go.AM

/- BUILDERS' POINTERS, UNSAFE STRINGS, ITERATORS, ASSERTIONS. -/
namespace Go.AM
section
variable {C : Cx} {ρ : Pl} {h h' : Heap} {w : World} {P : Program} {t : Tm} {a : Act}

theorem sameLayout_refl (d : Nat) (u : TypeId) : sameLayout P (d + 1) u u = true := by simp [sameLayout]

theorem depth_succ : ∃ d, P.depth = d + 1 := ⟨2 * (P.types.size + Made.depth) + 1, rfl⟩

theorem lies_first {u : TypeId} {n cells : Nat} {k : Nat} (hn : szA P u = some n) (hn0 : n ≠ 0) (hk : k * n ≤ cells) : liesAt P P.depth u (cells / n) 0 u k = true := by
  have hco : P.cellsOf u = n := by
    unfold szA at hn; unfold Program.cellsOf
    rw [hn]; rfl
  obtain ⟨d, hd⟩ := depth_succ (P := P)
  rw [hd]
  unfold liesAt
  have : rowAt P (sameLayout P P.depth · u) P.depth u (cells / n) 0 k = true := by
    rw [hd]
    unfold rowAt
    simp only [hco, hn0, if_false, Nat.zero_div, Nat.zero_mod, beq_self_eq_true, Bool.true_and, Nat.zero_add]
    have h1 : k ≤ cells / n := (Nat.le_div_iff_mul_le (Nat.pos_of_ne_zero hn0)).2 hk
    simp [h1, sameLayout_refl]
  simp [this]

theorem seen_cells {B : Nat} {xs : List Value} {ty lo hi : Nat} (o : Nat) (hB : w.heap[B]? = some (.cells xs.toArray ty (lo, hi))) : (Conv.seenAt ⟨B, o, none⟩).run P w = .ok ⟨B, o, none⟩ w := by
  have hs : w.shape? B = some (ty, xs.length) := by simp [World.shape?, hB]
  have hv : (viewAt B).run P w = .ok none w := by
    unfold viewAt
    simp only [Sem.run_bind, run_shape, hs, Result.andThen_ok, Option.isSome_some, if_true, Sem.run_pure]
  unfold Conv.seenAt
  simp only [Sem.run_bind, hv, Result.andThen_ok, Sem.run_pure]

theorem sim_upc (hr : Rel C ρ h w) {src dst e : TypeId} {n b : Nat} {x : Value} {tb : Nat} {cs : List AV} {own : Bool} {frz : Nat} {anc : List (Nat × Nat)} (hn : szA P e = some n) (hn0 : n ≠ 0)
    (hty : (P.underlying src = some (.pointer e) ∧ P.underlying dst = some .unsafePointer) ∨ (P.underlying src = some .unsafePointer ∧ P.underlying dst = some (.pointer e)))
    (hv : VR C.st ρ (.ptr b 0) x) (hg : h.get b = some (.cells tb cs own frz anc)) (htb : tb = e) (hl : cs.length = n) : Sim C P ρ h w (Conv.unsafePointer src dst x) (.ptr b 0) h := by
  have hv' := hv
  simp only [VR] at hv
  obtain ⟨B, m, hb, rfl⟩ := hv
  obtain ⟨_, _, ao, oo, h1, hB, h3⟩ := hr.dom b B m hb
  rw [hg] at h1; cases h1
  obtain ⟨xs, lo, hi, rfl, hm, hcr, _⟩ := h3
  have hcl := hcr.length
  subst htb
  refine Sim.of_run hr ?_ hv'
  have hsh : w.shape? B = some (tb, xs.length) := by simp [World.shape?, hB]
  unfold Conv.unsafePointer
  rcases hty with ⟨t1, t2⟩ | ⟨t1, t2⟩
  · have hc : (cellsIn B).run P w = .ok (some xs.length) w := by
      unfold cellsIn
      simp only [Sem.run_bind, run_shape, hsh, Result.andThen_ok, Sem.run_pure]
    simp only [Sem.run_bind, run_underlying t1, run_underlying t2, Result.andThen_ok, seen_cells 0 hB, hc, run_sizeOf hn]
    rw [if_neg (by simp [hn0]; intro e; rw [e] at hcl; simp at hcl; rw [hcl] at hl; simp at hl; exact hn0 hl.symm)]
    rfl
  · have hva : (variablesAt ⟨B, 0, none⟩ tb 1).run P w = .ok true w := by
      unfold variablesAt
      have hco : P.cellsOf tb = n := by unfold szA at hn; unfold Program.cellsOf; rw [hn]; rfl
      simp only [Sem.run_bind, run_program, Result.andThen_ok, run_shape, hsh, Sem.run_pure, hco]
      rw [lies_first hn hn0 (by omega)]
    simp only [Sem.run_bind, run_underlying t1, run_underlying t2, Result.andThen_ok, seen_cells 0 hB, run_sizeOf hn, hva, Bool.or_true, if_true, Sem.run_pure]

theorem run_loadBytes {B : Nat} : ∀ (ns : List Int) (o : Nat) (acc : List UInt8), CellsAt w B o (ns.map (Value.int .u8)) →
    (loadBytes ⟨B, o, none⟩ ⟨acc.toArray⟩ ns.length).run P w = .ok ⟨(acc ++ ns.map fun n => UInt8.ofNat n.toNat).toArray⟩ w
  | [], o, acc, _ => by simp [loadBytes]
  | n :: ns, o, acc, hc => by
    have h0 : w.cell? ⟨B, o, none⟩ = some (.int .u8 n) := by have := hc 0 (by simp); simpa using this
    have hp : (⟨acc.toArray⟩ : ByteArray).push n.toNat.toUInt8 = ⟨(acc ++ [UInt8.ofNat n.toNat]).toArray⟩ := by
      apply ByteArray.ext; simp [ByteArray.push]
    simp only [List.length_cons, loadBytes, Sem.run_bind, run_load, h0, Result.andThen_ok, addr_add, hp]
    rw [run_loadBytes ns (o + 1) _ (fun j hj => by
      have := hc (j + 1) (by simpa using hj)
      simp only [List.map_cons, List.getElem?_cons_succ] at this
      rw [← this]; congr 2; omega)]
    simp

theorem sim_rangeStr (hr : Rel C ρ h w) {ty : TypeId} {b : Nat} {s : List UInt8} {x : Value} (hu : P.underlying ty = some .string) (hv : VR C.st ρ (.str s) x) (ha : h.alloc (.iter s 0) = some (b, h')) :
    Sim C P ρ h w (Instr.range ty x) (.ptr b 0) h' := by
  simp only [VR] at hv; subst hv
  obtain ⟨g1, g2⟩ := Post.alloc (m := 0) hr ha (o := .stringIter ⟨s.toArray⟩ 0) rfl (fun _ _ hin => by cases hin)
  refine ⟨_, .pointer (some ⟨w.heap.size, 0, none⟩), _, ?_, VR_ptr g2, g1⟩
  unfold Instr.range
  simp only [Sem.run_bind, run_underlying hu, Result.andThen_ok, Sem.run_pure, run_newObj, World.alloc_eq]

theorem sim_nextStr (hr : Rel C ρ h w) {ty : TypeId} {b p : Nat} {s : List UInt8} {x : Value} {r : AV} (hv : VR C.st ρ (.ptr b 0) x) (hg : h.get b = some (.iter s p))
    (he : (if p < s.length then (match Utf8.decode ⟨s.toArray⟩ p with | (c, width) => some (AV.tuple [.bool true, goI p, .int .i32 c], h.set b (.iter s (p + width)))) else some (AV.tuple [.bool false], h)) = some (r, h')) :
    Sim C P ρ h w (Instr.next x true ty) r h' := by
  simp only [VR] at hv
  obtain ⟨B, m, hb, rfl⟩ := hv
  obtain ⟨hbn, hBN, ao, oo, h1, hB, h3⟩ := hr.dom b B m hb
  rw [hg] at h1; cases h1
  simp only [OR] at h3; subst h3
  have hroom := hr.room
  have hget : (getObj B).run P w = .ok (.stringIter ⟨s.toArray⟩ p) w := by simp [getObj, Sem.run, hB]
  have hset : ∀ o, (setObj B o).run P w = .ok () (w.putObj B o) := fun o => by simp [setObj, Sem.run, hB, World.putObj]
  have hsz : (⟨s.toArray⟩ : ByteArray).size = s.length := by simp [ByteArray.size]
  by_cases hp : p < s.length
  · rw [if_pos hp] at he
    rcases hd : Utf8.decode ⟨s.toArray⟩ p with ⟨c, width⟩
    rw [hd] at he; cases he
    refine ⟨ρ, .tuple #[.bool true, goInt p, .int .i32 c], w.putObj B (.stringIter ⟨s.toArray⟩ (p + width)), ?_, ?_, ?_⟩
    · unfold Instr.next
      simp only [Sem.run_bind, hget, Result.andThen_ok, hsz, hp, if_true, hd, hset, Sem.run_pure]
    · simp only [VR]
      exact ⟨[.bool true, goInt p, .int .i32 c], rfl, by simp only [VRs, VR, goI]; exact ⟨_, _, rfl, rfl, _, _, rfl, rfl, _, _, rfl, rfl, rfl⟩⟩
    · refine Post.put (ao' := .iter s (p + width)) hr hb hg rfl rfl (fun j hj hne => .inl ?_) (by rw [Heap.get_set (by omega) (by omega), if_pos rfl]) rfl rfl ?_
      · rw [Heap.get_set (by omega) hj, if_neg (fun e => hne e.symm)]
      · intro b2 m2 ty cs frz anc n o _ _ _ hin; cases hin
  · rw [if_neg hp] at he; cases he
    refine Sim.of_run hr (x := .tuple #[.bool false]) ?_ ?_
    · unfold Instr.next
      simp only [Sem.run_bind, hget, Result.andThen_ok, hsz, hp, if_false, Sem.run_pure]
    · simp only [VR]
      exact ⟨[.bool false], rfl, by simp only [VRs, VR]; exact ⟨_, _, rfl, rfl, rfl⟩⟩

theorem sim_assert (hr : Rel C ρ h w) {xt asd : TypeId} {z u r : AV} {ok : Bool} {x : Value} (hu : ∃ d, P.underlying asd = some d ∧ ∀ ms, d ≠ .interface ms) (hz : zeroA P asd = some z) (hv : VR C.st ρ u x)
    (he : (match u with | .iface t v => (if t = asd then some (if ok then AV.tuple [v, .bool true] else v) else if ok then some (AV.tuple [z, .bool false]) else none) | .niliface => if ok then some (AV.tuple [z, .bool false]) else none | _ => none) = some r) :
    Sim C P ρ h w (Instr.typeAssert x xt asd ok) r h := by
  obtain ⟨d, hd1, hd2⟩ := hu
  obtain ⟨zv, z1, z2, _⟩ := zeroA_sim (w := w) hz
  have two : ∀ (v : AV) (y : Value) (b : Bool), VR C.st ρ v y → VR C.st ρ (.tuple [v, .bool b]) (.tuple #[y, .bool b]) := fun v y b hvy => by
    simp only [VR]
    exact ⟨[y, .bool b], rfl, by simp only [VRs, VR]; exact ⟨_, _, rfl, hvy, _, _, rfl, rfl, rfl⟩⟩
  cases u <;> simp only [reduceCtorEq] at he
  case iface tt v =>
    simp only [VR] at hv
    obtain ⟨y, rfl, hy⟩ := hv
    by_cases htt : tt = asd
    · rw [if_pos htt] at he; cases he
      subst htt
      refine Sim.of_run hr (x := if ok then .tuple #[y, .bool true] else y) ?_ ?_
      · unfold Instr.typeAssert
        simp only [Sem.run_bind, run_underlying hd1, Result.andThen_ok]
        cases d <;> first | (exact absurd rfl (hd2 _)) | (simp only [if_true, Sem.run_pure])
      · cases ok
        · exact hy
        · exact two v y true hy
    · rw [if_neg htt] at he
      cases ok with
      | false => simp at he
      | true =>
        simp only [if_true, Option.some.injEq] at he; subst he
        refine Sim.of_run hr (x := .tuple #[zv, .bool false]) ?_ (two z zv false (z2 _ _))
        unfold Instr.typeAssert
        simp only [Sem.run_bind, run_underlying hd1, Result.andThen_ok]
        cases d <;> first | (exact absurd rfl (hd2 _)) | (simp only [htt, if_false, if_true, Sem.run_bind, z1, Result.andThen_ok, Sem.run_pure])
  case niliface =>
    simp only [VR] at hv; subst hv
    cases ok with
    | false => simp at he
    | true =>
      simp only [if_true, Option.some.injEq] at he; subst he
      refine Sim.of_run hr (x := .tuple #[zv, .bool false]) ?_ (two z zv false (z2 _ _))
      unfold Instr.typeAssert
      simp only [Sem.run_bind, run_underlying hd1, Result.andThen_ok]
      cases d <;> first | (exact absurd rfl (hd2 _)) | (simp only [if_true, Sem.run_bind, z1, Result.andThen_ok, Sem.run_pure])
end
end Go.AM

/- EVERY OPERATION THAT CALLS NOTHING. -/
namespace Go.AM
section
variable {C : Cx} {ρ : Pl} {h h' : Heap} {w : World} {t : Tm} {a : Act}

/-- what an operation of the model comes to -/
def SimN (C : Cx) (ρ : Pl) (h : Heap) (w : World) (s : Sem Next) (v : AV) (h' : Heap) : Prop :=
  ∃ ρ' x w', (s.run C.T.P w = .ok (.value x) w' ∨ (s.run C.T.P w = .ok .skip w' ∧ x = undef)) ∧ VR C.st ρ' v x ∧ Post C ρ h w ρ' h' w'

theorem SimN.of_sim {s : Sem Value} {v : AV} (h1 : Sim C C.T.P ρ h w s v h') : SimN C ρ h w (do pure (.value (← s))) v h' := by
  obtain ⟨ρ', x, w', h2, h3, h4⟩ := h1
  exact ⟨ρ', x, w', .inl (by simp only [Sem.run_bind, h2, Result.andThen_ok, Sem.run_pure]), h3, h4⟩

theorem VR_undef {st : Stab} {ρ : Pl} : VR st ρ undefA undef := by
  simp only [undefA, VR]; exact ⟨[], rfl, by simp only [VRs]⟩

theorem SimN.of_unit {s : Sem Unit} {w' : World} (h1 : s.run C.T.P w = .ok () w') (h2 : Post C ρ h w ρ h' w') : SimN C ρ h w (do s; pure .skip) undefA h' :=
  ⟨ρ, undef, w', .inr ⟨by simp only [Sem.run_bind, h1, Result.andThen_ok, Sem.run_pure], rfl⟩, VR_undef, h2⟩

theorem SimN.of_run (hr : Rel C ρ h w) {s : Sem Next} {x : Value} {v : AV} (h1 : s.run C.T.P w = .ok (.value x) w) (hv : VR C.st ρ v x) : SimN C ρ h w s v h :=
  ⟨ρ, x, w, .inl h1, hv, Post.refl hr⟩

theorem minmax_sim {b : Bool} (P : Program) : ∀ {l : List AV} {v r : AV} {x : Value} {xs : List Value}, VR C.st ρ v x → VRs C.st ρ l xs → minmaxA b v l = some r →
    ∃ y, ((xs.foldlM (if b then Builtin.max2 else Builtin.min2) x).run P w = .ok y w) ∧ VR C.st ρ r y
  | [], v, r, x, xs, hv, hl, he => by
    simp only [VRs] at hl; subst hl
    simp only [minmaxA, Option.some.injEq] at he; subst he
    exact ⟨x, by simp, hv⟩
  | u :: l, v, r, x, xs, hv, hl, he => by
    simp only [VRs] at hl
    obtain ⟨y, ys, rfl, hy, hys⟩ := hl
    cases v <;> cases u <;> simp only [minmaxA, reduceCtorEq] at he
    rename_i k n j m
    by_cases hjk : j = k
    · rw [if_pos hjk] at he
      subst hjk
      simp only [VR] at hv hy; subst hv; subst hy
      obtain ⟨z, z1, z2⟩ := minmax_sim P (x := .int j (bif b then (if m > n then m else n) else (if m < n then m else n))) (by simp only [VR]) hys he
      refine ⟨z, ?_, z2⟩
      cases b
      · simp only [Bool.false_eq_true, if_false, List.foldlM_cons, Builtin.min2, Sem.run_bind, Sem.run_pure, Result.andThen_ok, cond_false] at z1 ⊢
        exact z1
      · simp only [if_true, List.foldlM_cons, Builtin.max2, Sem.run_bind, Sem.run_pure, Result.andThen_ok, cond_true] at z1 ⊢
        exact z1
    · rw [if_neg hjk] at he; cases he

theorem arr1 {α : Type} {x : Array α} {y : α} (h : x.toList = [y]) : x = #[y] := by
  apply Array.ext'; simpa using h
theorem arr2 {α : Type} {x : Array α} {y z : α} (h : x.toList = [y, z]) : x = #[y, z] := by
  apply Array.ext'; simpa using h

theorem resolve_builtin {ρo : Operand → Value} {c : Call} {b : Builtin} {ty : TypeId} (hc : c.callee = .builtin b) :
    ((do let d ← resolve ρo c ty; invoke d.target d.args : Sem Next)) = builtin b c.argTypes ty (c.args.map fun | .const _ => true | _ => false) (c.args.map ρo) := by
  unfold resolve
  rw [hc]
  rfl

theorem arrc {α : Type} {x : Array α} {y : α} {l : List α} (h : x.toList = y :: l) : x[0]? = some y := by
  rw [← Array.getElem?_toList, h]; rfl

theorem zeroCells_flat (c : Array Value) : ∀ n, (Builtin.zeroCells c n).toList = List.flatten (List.replicate n c.toList)
  | 0 => by simp [Builtin.zeroCells]
  | n + 1 => by
    have ih := zeroCells_flat c n
    simp only [Builtin.zeroCells, Array.toList_map, Array.toList_range] at ih ⊢
    rw [List.replicate_succ, List.flatten_cons, ← ih, Nat.add_mul, Nat.one_mul, Nat.add_comm (n * c.size), List.range_add, List.map_append, List.map_map]
    congr 1
    · apply List.ext_getElem?
      intro i
      rw [List.getElem?_map]
      by_cases hi : i < c.size
      · rw [List.getElem?_range hi]
        simp [Nat.mod_eq_of_lt hi, hi]
      · rw [List.getElem?_eq_none (by simpa using hi), List.getElem?_eq_none (by simpa using hi)]; rfl
    · apply List.map_congr_left
      intro i _
      simp

theorem zeros_flat {zs : List AV} {zv : Value} {st : Stab} (hv : VRs st ρ zs zv.cells.toList) (n : Nat) : VRs st ρ (List.flatten (List.replicate n zs)) (Builtin.zeroCells zv.cells n).toList := by
  rw [zeroCells_flat]
  induction n with
  | zero => simp [VRs]
  | succ n ih => simp only [List.replicate_succ, List.flatten_cons]; exact hv.append ih

theorem builtin_sim (hg : C.globOK) (hr : Rel C ρ h w) (ht : TR C.st ρ t a.tmps) {b : Builtin} {at_ : Array TypeId} {args : Array Operand} {ty : TypeId} {cs : Array Bool} {ao : AOp} {v : AV}
    (hop : builtinA C.T b at_.toList args.toList = some ao) (hev : evOp ao t h = some (v, h')) : SimN C ρ h w (builtin b at_ ty cs (args.map a.eval)) v h' := by
  have od := fun {x : Operand} {d : Opd} (hx : opdA C.T x = some d) => opd_sim hg ht hx
  unfold builtinA at hop
  split at hop
  · -- len
    rename_i tt x hat harg
    obtain rfl := arr1 hat
    obtain rfl := arr1 harg
    dsimp only at hop
    split at hop
    · rename_i hu
      simp only [Option.map_eq_some_iff] at hop
      obtain ⟨d, hd, rfl⟩ := hop
      simp only [evOp] at hev
      have hx := od hd
      split at hev
      · rename_i s hdv
        rw [hdv] at hx; simp only [if_true] at hev; cases hev
        simp only [VR] at hx
        refine SimN.of_sim (Sim.of_run hr (x := goInt s.length) ?_ (by simp only [goI, goInt, VR]))
        simp only [Builtin.len_, List.map_toArray, List.map_cons, List.map_nil, List.getElem?_toArray, List.getElem?_cons_zero, Sem.run_bind, run_underlying hu, Result.andThen_ok, hx]
        rfl
      · cases hev
    · rename_i el hu
      simp only [Option.map_eq_some_iff] at hop
      obtain ⟨d, hd, rfl⟩ := hop
      simp only [evOp] at hev
      have hx := od hd
      split at hev
      · cases hev
      · rename_i hns
        simp only [Bool.false_eq_true, if_false] at hev
        split at hev <;> try (cases hev; done)
        rename_i n hn
        cases hev
        obtain ⟨p, k, hp⟩ : ∃ p k, a.eval x = .slice p n k := by
          cases hdv : Opd.ev t d <;> rw [hdv] at hx hn <;> simp only [lenA, Option.some.injEq, reduceCtorEq] at hn <;> simp only [VR] at hx
          · exact absurd hdv (hns _)
          · subst hn; exact ⟨_, _, hx⟩
          · subst hn; obtain ⟨_, _, _, _, hx, _⟩ := hx; exact ⟨_, _, hx⟩
          · subst hn; obtain ⟨_, _, _, hx, _⟩ := hx; exact ⟨_, _, hx⟩
          · subst hn; obtain ⟨_, _, hx⟩ := hx; exact ⟨_, _, hx⟩
        refine SimN.of_sim (Sim.of_run hr (x := goInt n) ?_ (by simp only [goI, goInt, VR]))
        simp only [Builtin.len_, List.map_toArray, List.map_cons, List.map_nil, List.getElem?_toArray, List.getElem?_cons_zero, Sem.run_bind, run_underlying hu, Result.andThen_ok, hp]
        rfl
    · rename_i kt el hu
      simp only [Option.map_eq_some_iff] at hop
      obtain ⟨d, hd, rfl⟩ := hop
      simp only [evOp] at hev
      have hx := od hd
      split at hev <;> try (cases hev; done)
      · rename_i hdv
        rw [hdv] at hx; simp only [VR] at hx; cases hev
        refine SimN.of_sim (Sim.of_run hr (x := goInt 0) ?_ (by simp only [goI, goInt, VR]; rfl))
        simp only [Builtin.len_, List.map_toArray, List.map_cons, List.map_nil, List.getElem?_toArray, List.getElem?_cons_zero, Sem.run_bind, run_underlying hu, Result.andThen_ok, hx]
        rfl
      · rename_i b hdv
        rw [hdv] at hx; simp only [VR] at hx
        obtain ⟨B, m, hb, hx⟩ := hx
        split at hev <;> try (cases hev; done)
        rename_i kk es hgb
        cases hev
        obtain ⟨_, _, ao, oo, h1, h2, h3⟩ := hr.dom b B m hb
        rw [(Heap.find_some.1 hgb).2] at h1; cases h1
        obtain ⟨E, ck, rfl, hE⟩ := h3
        have hget : (getObj B).run C.T.P w = .ok (.map E.toArray ck) w := by simp [getObj, Sem.run, h2]
        refine SimN.of_sim (Sim.of_run hr (x := goInt es.length) ?_ (by simp only [goI, goInt, VR]))
        simp only [Builtin.len_, List.map_toArray, List.map_cons, List.map_nil, List.getElem?_toArray, List.getElem?_cons_zero, Sem.run_bind, run_underlying hu, Result.andThen_ok, hx, hget, Sem.run_pure, List.size_toArray, ER_length hE]
    · rename_i n el hu
      cases hop
      simp only [evOp, Opd.ev] at hev
      cases hev
      refine SimN.of_sim (Sim.of_run hr (x := goInt n) ?_ (by simp only [goI, goInt, VR]))
      simp only [Builtin.len_, List.map_toArray, List.map_cons, List.map_nil, List.getElem?_toArray, List.getElem?_cons_zero, Sem.run_bind, run_underlying hu, Result.andThen_ok]
      rfl
    · cases hop
  · -- cap
    rename_i tt x hat harg
    obtain rfl := arr1 hat
    obtain rfl := arr1 harg
    dsimp only at hop
    split at hop <;> try (cases hop; done)
    rename_i el hu
    simp only [Option.map_eq_some_iff] at hop
    obtain ⟨d, hd, rfl⟩ := hop
    simp only [evOp] at hev
    have hx := od hd
    have key : ∀ p n k, a.eval x = .slice p n k → SimN C ρ h w (builtin .cap #[tt] ty cs (#[x].map a.eval)) (goI k) h := fun p n k hp => by
      refine SimN.of_sim (Sim.of_run hr (x := goInt k) ?_ (by simp only [goI, goInt, VR]))
      simp only [Builtin.cap_, List.map_toArray, List.map_cons, List.map_nil, List.getElem?_toArray, List.getElem?_cons_zero, Sem.run_bind, run_underlying hu, Result.andThen_ok, hp]
      rfl
    split at hev <;> try (cases hev; done)
    · rename_i hdv
      rw [hdv] at hx; simp only [VR] at hx; cases hev
      exact key _ _ _ hx
    · rename_i hdv
      rw [hdv] at hx; simp only [VR] at hx; cases hev
      obtain ⟨_, _, _, _, hx, _, rfl⟩ := hx
      exact key _ _ _ hx
    · rename_i hdv
      rw [hdv] at hx; simp only [VR] at hx; cases hev
      obtain ⟨_, _, _, hx, _, rfl, _⟩ := hx
      exact key _ _ _ hx
  · -- append
    rename_i ts tx s x hat harg
    obtain rfl := arr2 hat
    obtain rfl := arr2 harg
    dsimp only at hop
    split at hop <;> try (cases hop; done)
    rename_i el ds dx hu hs hx
    split at hop <;> try (cases hop; done)
    rename_i e bytes z hn hb hz
    split at hop
    · cases hop
    rename_i hc
    obtain ⟨hc1, hc2, hc3, hc4⟩ : e ≠ 0 ∧ z.length = e ∧ bytes ≠ 0 ∧ bytes ≤ 1048576 := by
      refine ⟨fun h => hc (.inl h), ?_, fun h => hc (.inr (.inr (.inl h))), ?_⟩
      · exact Decidable.byContradiction fun h => hc (.inr (.inl h))
      · exact Nat.le_of_not_lt fun h => hc (.inr (.inr (.inr h)))
    obtain ⟨zv, z1, z2, z3⟩ := zeroV_sim hz
    have hsv := od hs
    have hxv := od hx
    have hargs : (#[s, x].map a.eval) = #[a.eval s, a.eval x] := by simp
    have main : ((∃ e2, C.T.P.underlying tx = some (.slice e2)) ∨ C.T.P.underlying tx = some .string) → ∀ m new, lenA (dx.ev t) = some m → sourceA h e (dx.ev t) m = some new → appendA el e bytes (ds.ev t) new m h = some (v, h') →
        SimN C ρ h w (builtin .append #[ts, tx] ty cs (#[s, x].map a.eval)) v h' := by
      intro htx m new hm hnew happ
      obtain ⟨ys, y1, y2⟩ := source_sim (P := C.T.P) hr hxv hnew ⟨m, hm, Nat.le_refl _⟩
      obtain ⟨base, sLen, sCap, hy, hroom, hsim⟩ := appendV_sim (P := C.T.P) hr hc1 hc3 (z3.trans hc2) hsv y1 y2 happ
      refine SimN.of_sim (Sim.of_run' ?_ hsim)
      rw [hargs, hy]
      exact append_run hu htx hn hb hc3 z1 hroom (len_sim hxv hm)
    split at hop <;> try (cases hop; done)
    · rename_i e2 htx
      cases hop
      simp only [evOp] at hev
      split at hev <;> try (cases hev; done)
      rename_i m hm
      split at hev <;> try (cases hev; done)
      rename_i new hnew
      exact main (.inl ⟨_, htx⟩) m new hm hnew hev
    · rename_i htx
      cases hop
      simp only [evOp] at hev
      split at hev <;> try (cases hev; done)
      rename_i m hm
      split at hev <;> try (cases hev; done)
      rename_i new hnew
      exact main (.inr htx) m new hm hnew hev
    · rename_i k htx
      cases hop
      simp only [evOp] at hev
      split at hev <;> try (cases hev; done)
      rename_i n hdv
      split at hev <;> try (cases hev; done)
      rename_i hnb
      obtain ⟨m, rfl⟩ : ∃ m : Nat, n = m := ⟨n.toNat, by omega⟩
      rw [hdv] at hxv; simp only [VR] at hxv
      simp only [Int.toNat_natCast] at hev
      have hzs : ∀ n, (zerosS el e m).run C.T.P { w with drawn := n } = .ok (Builtin.zeroCells zv.cells m).toList.toArray { w with drawn := n } := fun n => by
        unfold zerosS
        by_cases h0 : m * e = 0
        · rw [if_pos h0]
          have : m = 0 := (Nat.mul_eq_zero.1 h0).resolve_right hc1
          subst this
          simp [Builtin.zeroCells]
        · rw [if_neg h0]
          simp only [Sem.run_bind, z1, Result.andThen_ok, Sem.run_pure, Array.toArray_toList]
      obtain ⟨base, sLen, sCap, hy, hroom, hsim⟩ := appendV_sim (P := C.T.P) hr hc1 hc3 (z3.trans hc2) hsv (zeros_flat (z2 C.st ρ) m) hzs hev
      refine SimN.of_sim (Sim.of_run' ?_ hsim)
      rw [hargs, hy, hxv]
      exact append_run_zeros hu htx hn hb hc3 hc4 (by omega) z1 hroom
  · -- copy
    rename_i td tx d x hat harg
    obtain rfl := arr2 hat
    obtain rfl := arr2 harg
    dsimp only at hop
    split at hop <;> try (cases hop; done)
    rename_i el dd dx hu hd hx
    split at hop <;> try (cases hop; done)
    rename_i n hn
    split at hop <;> try (cases hop; done)
    rename_i hn0
    cases hop
    have hdv := od hd
    have hxv := od hx
    simp only [evOp] at hev
    split at hev <;> try (cases hev; done)
    rename_i m k hm hk
    split at hev <;> try (cases hev; done)
    rename_i new hnew
    have hargs : (#[d, x].map a.eval) = #[a.eval d, a.eval x] := by simp
    have key : (match dd.ev t with | .nilslice | .eslice => some h | .slice b o _ _ e' => if e' = n then writeAt h b o new else none | _ => none) = some h' ∧ v = goI (min m k) := by
      split at hev <;> try (cases hev; done)
      · rename_i e; rw [e]; cases hev; exact ⟨rfl, rfl⟩
      · rename_i e; rw [e]; cases hev; exact ⟨rfl, rfl⟩
      · rename_i e; rw [e]
        dsimp only
        split at hev <;> try (cases hev; done)
        rename_i he
        rw [if_pos he]
        split at hev <;> try (cases hev; done)
        rename_i hwr
        cases hev
        exact ⟨hwr, rfl⟩
    obtain ⟨k1, rfl⟩ := key
    refine SimN.of_sim (Sim.of_run' ?_ (sim_copy (td := td) (tx := tx) (ty := ty) hr hu hn hdv hxv hm hk hnew (by revert hdv hk k1; cases dd.ev t <;> exact fun _ _ k => k)))
    rw [hargs]
  · -- max
    rename_i x l harg
    dsimp only at hop
    split at hop <;> try (cases hop; done)
    rename_i dx dl hx hl
    cases hop
    simp only [evOp] at hev
    split at hev <;> try (cases hev; done)
    rename_i r hm
    cases hev
    obtain ⟨y, y1, y2⟩ := minmax_sim (w := w) C.T.P (od hx) (opds_sim hg ht hl) hm
    refine SimN.of_sim (Sim.of_run hr (x := y) ?_ y2)
    have : (args.map a.eval).toList = a.eval x :: l.map a.eval := by simp [harg]
    simp only [Builtin.max_, this]
    simpa using y1
  · -- min
    rename_i x l harg
    dsimp only at hop
    split at hop <;> try (cases hop; done)
    rename_i dx dl hx hl
    cases hop
    simp only [evOp] at hev
    split at hev <;> try (cases hev; done)
    rename_i r hm
    cases hev
    obtain ⟨y, y1, y2⟩ := minmax_sim (w := w) C.T.P (od hx) (opds_sim hg ht hl) hm
    refine SimN.of_sim (Sim.of_run hr (x := y) ?_ y2)
    have : (args.map a.eval).toList = a.eval x :: l.map a.eval := by simp [harg]
    simp only [Builtin.min_, this]
    simpa using y1
  · -- recover
    cases hop
    simp only [evOp, reduceCtorEq] at hev
  · cases hop

theorem op_sim (hg : C.globOK) (hr : Rel C ρ h w) (ht : TR C.st ρ t a.tmps) {o : Oper} {ao : AOp} {v : AV} (hop : opA C.T o.op = some ao) (hev : evOp ao t h = some (v, h')) : SimN C ρ h w (execOp a.eval o) v h' := by
  obtain ⟨dst, op, ty, pos, after, guard⟩ := o
  simp only at hop
  have od := fun {x : Operand} {d : Opd} (hx : opdA C.T x = some d) => opd_sim hg ht hx
  cases op with
  | move x =>
    simp only [opA, Option.map_eq_some_iff] at hop
    obtain ⟨d, hd, rfl⟩ := hop
    simp only [evOp, Option.some.injEq, Prod.mk.injEq] at hev
    obtain ⟨rfl, rfl⟩ := hev
    exact SimN.of_run hr rfl (od hd)
  | assign x =>
    simp only [opA, Option.map_eq_some_iff] at hop
    obtain ⟨d, hd, rfl⟩ := hop
    simp only [evOp, Option.some.injEq, Prod.mk.injEq] at hev
    obtain ⟨rfl, rfl⟩ := hev
    exact SimN.of_run hr rfl (od hd)
  | pick c x y =>
    simp only [opA] at hop
    split at hop <;> try (cases hop; done)
    rename_i dc dx dy hc hx hy
    cases hop
    simp only [evOp] at hev
    have hcv := od hc
    split at hev
    · rename_i e
      rw [e] at hcv; simp only [VR] at hcv
      cases hev
      exact SimN.of_run hr (by simp only [execOp, hcv, asBool, Sem.run_bind, Sem.run_pure, Result.andThen_ok, if_true]) (od hx)
    · rename_i e
      rw [e] at hcv; simp only [VR] at hcv
      cases hev
      exact SimN.of_run hr (by simp only [execOp, hcv, asBool, Sem.run_bind, Sem.run_pure, Result.andThen_ok]; rfl) (od hy)
    · cases hev
  | alloc e =>
    simp only [opA, Option.map_eq_some_iff] at hop
    obtain ⟨zs, hz, rfl⟩ := hop
    simp only [evOp] at hev
    split at hev <;> try (cases hev; done)
    rename_i b h1 hn
    cases hev
    exact SimN.of_sim (sim_alloc hr hz hn)
  | box e x =>
    simp only [opA, Option.map_eq_some_iff] at hop
    obtain ⟨d, hd, rfl⟩ := hop
    simp only [evOp] at hev
    split at hev <;> try (cases hev; done)
    rename_i hac
    split at hev <;> try (cases hev; done)
    rename_i b h1 hn
    cases hev
    exact SimN.of_sim (sim_box hr (od hd) hac hn)
  | build tt ps =>
    simp only [opA] at hop
    split at hop
    · rename_i z fs hz hu
      split at hop
      · cases hop
      rename_i hall
      simp only [Option.map_eq_some_iff] at hop
      obtain ⟨ds, hds, rfl⟩ := hop
      simp only [evOp] at hev
      split at hev <;> try (cases hev; done)
      rename_i cs hf
      cases hev
      refine SimN.of_sim (sim_build_struct hg hr ht hu hz (fun f hf => ?_) hds hf)
      simp only [Bool.not_eq_true', Bool.not_eq_false, List.all_eq_true] at hall
      exact Option.isSome_iff_exists.1 (hall f hf)
    · rename_i z n e hz hu
      split at hop <;> try (cases hop; done)
      rename_i n hn
      simp only [Option.map_eq_some_iff] at hop
      obtain ⟨ds, hds, rfl⟩ := hop
      simp only [evOp] at hev
      split at hev <;> try (cases hev; done)
      rename_i cs hf
      cases hev
      exact SimN.of_sim (sim_build_array hg hr ht hu hz hn hds hf)
    · cases hop
  | buildSlice tt len ps =>
    simp only [opA] at hop
    split at hop <;> try (cases hop; done)
    rename_i e hu
    split at hop <;> try (cases hop; done)
    rename_i n z ds hn hz hds
    split at hop <;> try (cases hop; done)
    rename_i hc
    cases hop
    simp only [evOp] at hev
    split at hev <;> try (cases hev; done)
    rename_i cs hf
    split at hev <;> try (cases hev; done)
    rename_i b h1 hn1
    cases hev
    exact SimN.of_sim (sim_buildSlice hg hr ht hu hz hn hc.1 hc.2.2 hds hf hn1)
  | load tt x =>
    simp only [opA] at hop
    split at hop <;> try (cases hop; done)
    rename_i g n d hgg hn hd
    split at hop <;> try (cases hop; done)
    cases hop
    simp only [evOp] at hev
    split at hev
    · rename_i b o e
      split at hev <;> try (cases hev; done)
      rename_i cs hc
      split at hev <;> try (cases hev; done)
      rename_i r hrd
      cases hev
      have hx := od hd
      rw [e] at hx
      exact SimN.of_sim (sim_load hr hgg hn hx hc hrd)
    · rename_i cs o e
      split at hev <;> try (cases hev; done)
      rename_i cs hc
      split at hev <;> try (cases hev; done)
      rename_i r hrd
      cases hev
      have hx := od hd
      rw [e] at hx
      exact SimN.of_sim (sim_load hr hgg hn hx hc hrd)
    · cases hev
  | store tt p x =>
    simp only [opA] at hop
    split at hop <;> try (cases hop; done)
    rename_i n dp dx hn hp hx
    cases hop
    simp only [evOp] at hev
    split at hev <;> try (cases hev; done)
    rename_i b o e
    split at hev <;> try (cases hev; done)
    rename_i hl
    split at hev <;> try (cases hev; done)
    rename_i h1 hw
    cases hev
    obtain ⟨w', g1, g2⟩ := sim_store (P := C.T.P) hr hn (od hp) e (od hx) hl hw
    exact SimN.of_unit g1 g2
  | nilCheck x =>
    simp only [opA, Option.map_eq_some_iff] at hop
    obtain ⟨d, hd, rfl⟩ := hop
    have hx := od hd
    simp only [evOp] at hev
    split at hev
    · rename_i b o e
      cases hev
      rw [e] at hx
      have hx' := hx
      simp only [VR] at hx'
      obtain ⟨B, m, _, hx'⟩ := hx'
      exact SimN.of_run hr (x := a.eval x) (by simp only [execOp, hx']; rfl) hx
    · rename_i cs o e
      cases hev
      rw [e] at hx
      have hx' := hx
      simp only [VR] at hx'
      obtain ⟨B, m, hx', _⟩ := hx'
      exact SimN.of_run hr (x := a.eval x) (by simp only [execOp, hx']; rfl) hx
    · rename_i f l c e
      cases hev
      rw [e] at hx
      have hx' := hx
      simp only [VR] at hx'
      obtain ⟨xs, ys, hx', _⟩ := hx'
      exact SimN.of_run hr (x := a.eval x) (by simp only [execOp, hx']; rfl) hx
    · cases hev
  | binOp op tt x y yt =>
    simp only [opA] at hop
    split at hop <;> try (cases hop; done)
    rename_i dx dy hx hy
    have go : ∀ {q : EqK}, ao = .bin op q dx dy → (∃ z, (do eqGuard op tt x y (a.eval x) (a.eval y); binOp op tt (a.eval x) (a.eval y) : Sem Value).run C.T.P w = .ok z w ∧ VR C.st ρ v z) → h = h' → SimN C ρ h w (execOp a.eval { dst := dst, op := .binOp op tt x y yt, type := ty, pos := pos, after := after, guard := guard }) v h' := fun _ hz hh => by
      obtain ⟨z, hz1, hz2⟩ := hz
      subst hh
      exact SimN.of_sim (Sim.of_run hr hz1 hz2)
    by_cases hq : op = .eql ∨ op = .neq
    · have hop' : (eqK C.T.P tt (isK x || isK y)).map (fun q => AOp.bin op q dx dy) = some ao := by
        rcases hq with rfl | rfl <;> exact hop
      simp only [Option.map_eq_some_iff] at hop'
      obtain ⟨q, hq1, rfl⟩ := hop'
      simp only [evOp] at hev
      split at hev <;> try (cases hev; done)
      rename_i r hb
      cases hev
      rcases hq with rfl | rfl
      · simp only [binA, Option.map_eq_some_iff] at hb
        obtain ⟨bb, hb, rfl⟩ := hb
        exact go rfl ⟨_, eq_sim (.inl rfl) hq1 (od hx) (od hy) hb, by simp only [VR, if_true]⟩ rfl
      · simp only [binA, Option.map_eq_some_iff] at hb
        obtain ⟨bb, hb, rfl⟩ := hb
        exact go rfl ⟨_, eq_sim (.inr rfl) hq1 (od hx) (od hy) hb, by simp only [VR, reduceCtorEq, if_false]⟩ rfl
    · have h1 : op ≠ .eql := fun e => hq (.inl e)
      have h2 : op ≠ .neq := fun e => hq (.inr e)
      have hop' : some (AOp.bin op .num dx dy) = some ao := by
        cases op <;> first | exact hop | exact absurd rfl h1 | exact absurd rfl h2
      cases hop'
      simp only [evOp] at hev
      split at hev <;> try (cases hev; done)
      rename_i r hb
      cases hev
      exact go rfl (bin_sim h1 h2 (od hx) (od hy) hb) rfl
  | unOp op tt x =>
    simp only [opA, Option.map_eq_some_iff] at hop
    obtain ⟨d, hd, rfl⟩ := hop
    simp only [evOp] at hev
    split at hev <;> try (cases hev; done)
    rename_i r hb
    cases hev
    obtain ⟨z, z1, z2⟩ := un_sim (P := C.T.P) (w := w) (od hd) hb
    exact SimN.of_sim (Sim.of_run hr z1 z2)
  | convert sr ds x =>
    simp only [opA] at hop
    split at hop
    · rename_i d ks k hd hs hdd
      cases hop
      have hx := od hd
      simp only [evOp, convA] at hev
      split at hev <;> try (cases hev; done)
      rename_i kk n e
      cases hev
      rw [e] at hx; simp only [VR] at hx
      refine SimN.of_sim (Sim.of_run hr (x := .int k (k.wrap n)) ?_ (by simp only [VR, wrapA_eq]))
      simp only [convert, Sem.run_bind, run_underlying hs, run_underlying hdd, Result.andThen_ok, hx, Conv.intToInt, Sem.run_pure]
    · rename_i d ks hd hs hdd
      cases hop
      have hx := od hd
      simp only [evOp, convA] at hev
      split at hev <;> try (cases hev; done)
      rename_i kk n e
      cases hev
      rw [e] at hx; simp only [VR] at hx
      refine SimN.of_sim (Sim.of_run hr (x := .string (Utf8.encode n)) ?_ (by simp only [VR]))
      simp only [convert, Sem.run_bind, run_underlying hs, run_underlying hdd, Result.andThen_ok, hx, Conv.intToString, Sem.run_pure]
    · rename_i d hd hs hdd
      cases hop
      have hx := od hd
      simp only [evOp, convA] at hev
      split at hev <;> try (cases hev; done)
      rename_i s e
      cases hev
      rw [e] at hx; simp only [VR] at hx
      refine SimN.of_sim (Sim.of_run hr (x := .string ⟨s.toArray⟩) ?_ (by simp only [VR]))
      simp only [convert, Sem.run_bind, run_underlying hs, run_underlying hdd, Result.andThen_ok, hx, Sem.run_pure]
    · rename_i d e hd hs hdd
      split at hop <;> try (cases hop; done)
      rename_i hue hne
      cases hop
      have hx := od hd
      simp only [evOp, convA] at hev
      split at hev <;> try (cases hev; done)
      rename_i s es
      split at hev <;> try (cases hev; done)
      rename_i b h1 ha
      cases hev
      rw [es] at hx; simp only [VR] at hx
      refine SimN.of_sim (Sim.of_run' ?_ (sim_s2b hr ha))
      simp only [convert, Sem.run_bind, run_underlying hs, run_underlying hdd, Result.andThen_ok, hx, run_underlying hue]
    · rename_i d e hd hs hdd
      split at hop <;> try (cases hop; done)
      rename_i hue hne
      cases hop
      have hx := od hd
      simp only [evOp, convA] at hev
      split at hev <;> try (cases hev; done)
      rename_i l hl
      cases hev
      refine SimN.of_sim (Sim.of_run' ?_ (sim_b2s hr hx hl))
      have hsl : ∃ bb nn kk, a.eval x = .slice bb nn kk := by
        cases hq : Opd.ev t d <;> rw [hq] at hl hx <;> simp only [b2sA, reduceCtorEq] at hl <;> simp only [VR] at hx
        · exact ⟨_, _, _, hx⟩
        · obtain ⟨B, m, k, _, hx, _⟩ := hx; exact ⟨_, _, _, hx⟩
        · obtain ⟨B, m, k, hx, _⟩ := hx; exact ⟨_, _, _, hx⟩
        · obtain ⟨B, k, hx⟩ := hx; exact ⟨_, _, _, hx⟩
      obtain ⟨bb, nn, kk, hsl⟩ := hsl
      simp only [convert, Sem.run_bind, run_underlying hs, run_underlying hdd, Result.andThen_ok, hsl, run_underlying hue]
    · rename_i d e hd hs hdd
      split at hop <;> try (cases hop; done)
      rename_i n hn
      split at hop <;> try (cases hop; done)
      rename_i hn0
      cases hop
      have hx := od hd
      simp only [evOp, convA] at hev
      split at hev <;> try (cases hev; done)
      · rename_i es
        cases hev
        rw [es] at hx; simp only [VR] at hx
        refine SimN.of_sim (Sim.of_run hr (x := .pointer none) ?_ (by simp only [VR]))
        simp only [convert, Sem.run_bind, run_underlying hs, run_underlying hdd, Result.andThen_ok, hx, Conv.unsafePointer, Sem.run_pure]
      · rename_i b es
        split at hev <;> try (cases hev; done)
        rename_i ty' cs _ _ _ hgb
        split at hev <;> try (cases hev; done)
        rename_i hc
        cases hev
        rw [es] at hx
        have hx' := hx
        simp only [VR] at hx'
        obtain ⟨B, m, _, hx'⟩ := hx'
        refine SimN.of_sim (Sim.of_run' ?_ (sim_upc (src := sr) (dst := ds) hr hn hn0 (.inl ⟨hs, hdd⟩) hx (Heap.find_some.1 hgb).2 hc.1 hc.2))
        simp only [convert, Sem.run_bind, run_underlying hs, run_underlying hdd, Result.andThen_ok, hx']
    · rename_i d e hd hs hdd
      split at hop <;> try (cases hop; done)
      rename_i n hn
      split at hop <;> try (cases hop; done)
      rename_i hn0
      cases hop
      have hx := od hd
      simp only [evOp, convA] at hev
      split at hev <;> try (cases hev; done)
      · rename_i es
        cases hev
        rw [es] at hx; simp only [VR] at hx
        refine SimN.of_sim (Sim.of_run hr (x := .pointer none) ?_ (by simp only [VR]))
        simp only [convert, Sem.run_bind, run_underlying hs, run_underlying hdd, Result.andThen_ok, hx, Conv.unsafePointer, Sem.run_pure]
      · rename_i b es
        split at hev <;> try (cases hev; done)
        rename_i ty' cs _ _ _ hgb
        split at hev <;> try (cases hev; done)
        rename_i hc
        cases hev
        rw [es] at hx
        have hx' := hx
        simp only [VR] at hx'
        obtain ⟨B, m, _, hx'⟩ := hx'
        refine SimN.of_sim (Sim.of_run' ?_ (sim_upc (src := sr) (dst := ds) hr hn hn0 (.inr ⟨hs, hdd⟩) hx (Heap.find_some.1 hgb).2 hc.1 hc.2))
        simp only [convert, Sem.run_bind, run_underlying hs, run_underlying hdd, Result.andThen_ok, hx']
    · cases hop
  | makeInterface tt x =>
    simp only [opA] at hop
    split at hop
    · cases hop
    · rename_i d hni hu
      simp only [Option.map_eq_some_iff] at hop
      obtain ⟨dx, hd, rfl⟩ := hop
      simp only [evOp, Option.some.injEq, Prod.mk.injEq] at hev
      obtain ⟨rfl, rfl⟩ := hev
      refine SimN.of_sim (Sim.of_run hr (x := .iface tt (a.eval x)) ?_ (by simp only [VR]; exact ⟨_, rfl, od hd⟩))
      simp only [Instr.makeInterface, Sem.run_bind, run_underlying hu, Result.andThen_ok]
      cases d <;> first | (exact absurd rfl (hni _)) | rfl
    · cases hop
  | makeFunc fn f c =>
    cases fn <;> simp only [opA, reduceCtorEq] at hop
    rename_i g
    split at hop <;> try (cases hop; done)
    rename_i df dc hf hc
    cases hop
    simp only [evOp, Option.some.injEq, Prod.mk.injEq] at hev
    obtain ⟨rfl, rfl⟩ := hev
    refine SimN.of_sim (Sim.of_run hr (x := .func (.func g) (f.map a.eval) (c.map a.eval)) rfl ?_)
    simp only [VR]
    exact ⟨f.toList.map a.eval, c.toList.map a.eval, by simp [← Array.toList_map], opds_sim hg ht hf, opds_sim hg ht hc⟩
  | makeMap tt rs =>
    simp only [opA] at hop
    split at hop <;> try (cases hop; done)
    rename_i k e dr hu hdr
    simp only [Option.map_eq_some_iff] at hop
    obtain ⟨kk, hk, rfl⟩ := hop
    simp only [evOp] at hev
    split at hev <;> try (cases hev; done)
    rename_i hint
    split at hev <;> try (cases hev; done)
    rename_i b h1 ha
    cases hev
    obtain ⟨g1, g2⟩ := Post.alloc (m := 0) hr ha (o := .map #[] 0) ⟨[], 0, rfl, rfl⟩ (fun _ _ hin => by cases hin)
    refine SimN.of_sim ⟨_, .map (some w.heap.size), _, ?_, by simp only [VR]; exact ⟨_, _, g2, rfl⟩, g1⟩
    cases rs with
    | none => simp only [Option.map_none, Instr.makeMap, Sem.run_bind, run_newObj, World.alloc_eq, Sem.run_pure, Result.andThen_ok]
    | some r =>
      simp only [opdO, Option.map_eq_some_iff] at hdr
      obtain ⟨d, hd, rfl⟩ := hdr
      have hx := od hd
      simp only [hintA] at hint
      split at hint <;> try (cases hint; done)
      rename_i ki n e
      rw [e] at hx
      simp only [VR] at hx
      simp only [Option.map_some, Instr.makeMap, hx, Sem.run_bind, run_underlying hu, asInt, asIntOf, run_newObj, World.alloc_eq, Sem.run_pure, Result.andThen_ok]
  | makeSlice tt l c =>
    simp only [opA] at hop
    split at hop <;> try (cases hop; done)
    rename_i e dl dc hu hl hc
    split at hop <;> try (cases hop; done)
    rename_i n by_ z hn hb hz
    split at hop <;> try (cases hop; done)
    rename_i hcond
    cases hop
    have hlv := od hl
    have hcv := od hc
    simp only [evOp] at hev
    split at hev <;> try (cases hev; done)
    rename_i li ci el ec
    rw [el] at hlv; rw [ec] at hcv
    split at hev <;> try (cases hev; done)
    rename_i hcc
    split at hev <;> try (cases hev; done)
    rename_i b h1 ha
    cases hev
    simp only [VR] at hlv hcv
    refine SimN.of_sim ?_
    rw [hlv, hcv]
    exact sim_makeSlice hr hu hn hb hz hcond.1 hcc ha
  | slice tt x lo hi mx =>
    simp only [opA] at hop
    split at hop
    · rename_i n e dx dlo dhi hu hx hlo hhi hmx
      split at hop <;> try (cases hop; done)
      rename_i k hn
      cases hop
      have hmn : mx = none := by cases mx with | none => rfl | some m => simp [opdO] at hmx
      subst hmn
      have hxv := od hx
      simp only [evOp] at hev
      split at hev <;> try (cases hev; done)
      rename_i b o es
      split at hev <;> try (cases hev; done)
      rename_i hi' hh
      split at hev <;> try (cases hev; done)
      rename_i lo' hl
      cases hev
      rw [es] at hxv
      simp only [VR] at hxv
      obtain ⟨B, m, hb, hxv⟩ := hxv
      have hb1 := bounds_sim (P := C.T.P) (w := w) (isS := false) (len := n) (cap := n) (mx := none) (vmx := none) (kn := n) (m := n) (known := none) (opdO_sim hg ht hlo) (opdO_sim hg ht hhi) rfl ⟨rfl, Nat.le_refl _⟩ (by simp) hh hl
      have h1 := boundO_le hh (Nat.le_refl _)
      have h2 := boundO_le hl (Nat.zero_le _)
      refine SimN.of_sim (Sim.of_run hr (x := .slice (some ⟨B, if n = lo' then o else o + lo' * k, none⟩) (hi' - lo') (n - lo')) ?_ ?_)
      · simp only [Option.map_none, Instr.sliceAt, Sem.run_bind, run_underlying hu, Result.andThen_ok, hxv, Instr.sureAddr, Sem.run_pure, hb1, run_sizeOf hn, addr_add]
        split <;> rfl
      · simp only [VR]
        exact ⟨B, m, n - lo', hb, rfl, by omega, rfl⟩
    · rename_i dx dlo dhi hu hx hlo hhi hmx
      cases hop
      have hxv := od hx
      simp only [evOp] at hev
      split at hev <;> try (cases hev; done)
      rename_i s e
      split at hev <;> try (cases hev; done)
      rename_i r hs
      cases hev
      rw [e] at hxv
      have hmn : mx = none := by cases mx with | none => rfl | some m => simp [opdO] at hmx
      subst hmn
      exact SimN.of_sim (sim_sliceStr hr hu hxv rfl (opdO_sim hg ht hlo) (opdO_sim hg ht hhi) hs)
    · rename_i e dx dlo dhi dmx hu hx hlo hhi hmx
      split at hop <;> try (cases hop; done)
      rename_i k hn
      split at hop <;> try (cases hop; done)
      rename_i hc
      cases hop
      simp only [evOp] at hev
      split at hev <;> try (cases hev; done)
      rename_i X hX
      split at hev <;> try (cases hev; done)
      rename_i r hs
      cases hev
      refine SimN.of_sim (sim_sliceSl hr hu hn (od hx) (opdO_sim hg ht hlo) (opdO_sim hg ht hhi) (opdO_sim hg ht hmx) ?_ (fun h0 => hc (.inl h0)) hX hs)
      intro hms
      cases hdh : dhi with
      | some _ => rfl
      | none =>
        exact absurd (.inr ⟨hms, by rw [hdh]; rfl⟩) hc
    · cases hop
  | fieldAddr s x i =>
    simp only [opA] at hop
    split at hop <;> try (cases hop; done)
    rename_i fs d hu hd
    split at hop <;> try (cases hop; done)
    rename_i f hf
    split at hop <;> try (cases hop; done)
    rename_i n hn
    split at hop <;> try (cases hop; done)
    rename_i hn0
    cases hop
    have hx := od hd
    simp only [evOp] at hev
    split at hev <;> try (cases hev; done)
    · rename_i b o e
      cases hev; rw [e] at hx
      exact SimN.of_sim (sim_fieldAddr hr hu hf hn hn0 hx rfl)
    · rename_i cs o e
      cases hev; rw [e] at hx
      exact SimN.of_sim (sim_fieldAddr hr hu hf hn hn0 hx rfl)
  | field s x i =>
    simp only [opA] at hop
    split at hop <;> try (cases hop; done)
    rename_i fs d hu hd
    split at hop <;> try (cases hop; done)
    rename_i f hf
    split at hop <;> try (cases hop; done)
    rename_i g n hgg hn
    split at hop <;> try (cases hop; done)
    cases hop
    have hh : h = h' := by
      simp only [evOp] at hev
      split at hev <;> try (cases hev; done)
      split at hev <;> try (cases hev; done)
      split at hev <;> try (cases hev; done)
      cases hev; rfl
    subst hh
    exact SimN.of_sim (sim_field (t := t) hr hu hf hgg hn (od hd) (by simpa only [evOp, Opd.ev] using hev))
  | indexAddr tt x i =>
    simp only [opA] at hop
    split at hop
    · rename_i n e dx di hu hx hi
      split at hop <;> try (cases hop; done)
      rename_i k hn
      split at hop <;> try (cases hop; done)
      cases hop
      exact SimN.of_sim (by
        have := sim_idxAddrA (C := C) (t := t) hr hu hn (od hx) (od hi) (by simpa only [evOp, Opd.ev] using hev)
        exact this)
    · rename_i e dx di hu hx hi
      split at hop <;> try (cases hop; done)
      rename_i k hn
      split at hop <;> try (cases hop; done)
      cases hop
      exact SimN.of_sim (by
        have := sim_idxAddrS (C := C) (t := t) hr hu hn (od hx) (od hi) (by simpa only [evOp, Opd.ev] using hev)
        exact this)
    · cases hop
  | index tt x i =>
    simp only [opA] at hop
    split at hop <;> try (cases hop; done)
    · rename_i dx di hu hx hi
      cases hop
      exact SimN.of_sim (by
        have := sim_idxStr (C := C) (t := t) hr hu (od hx) (od hi) (by simpa only [evOp, Opd.ev] using hev)
        exact this)
    · rename_i m el dx di hu hx hi
      split at hop <;> try (cases hop; done)
      rename_i g n hg1 hn1
      split at hop <;> try (cases hop; done)
      cases hop
      exact SimN.of_sim (by
        have := sim_idxArr (C := C) (t := t) hr hu hg1 hn1 (od hx) (od hi) (by simpa only [evOp, Opd.ev] using hev)
        exact this)
  | extract x i =>
    simp only [opA, Option.map_eq_some_iff] at hop
    obtain ⟨d, hd, rfl⟩ := hop
    have hx := od hd
    simp only [evOp] at hev
    split at hev <;> try (cases hev; done)
    rename_i vs e
    split at hev <;> try (cases hev; done)
    rename_i u hu
    cases hev
    rw [e] at hx
    simp only [VR] at hx
    obtain ⟨xs, hx, hxs⟩ := hx
    obtain ⟨y, hy, hyv⟩ := hxs.get hu
    refine SimN.of_sim (Sim.of_run hr (x := y) ?_ hyv)
    simp [hx, Instr.extract, hy]
  | lookup tt x i ok =>
    simp only [opA] at hop
    split at hop <;> try (cases hop; done)
    rename_i kt el dx di hu hx hi
    split at hop <;> try (cases hop; done)
    rename_i kk z hk hz
    cases hop
    have hxv := od hx
    simp only [evOp] at hev
    split at hev <;> try (cases hev; done)
    rename_i hok
    split at hev <;> try (cases hev; done)
    · rename_i b e
      rw [e] at hxv
      split at hev <;> try (cases hev; done)
      rename_i kk' es hgb
      split at hev <;> try (cases hev; done)
      rename_i hkk
      split at hev <;> try (cases hev; done)
      · rename_i u hl
        cases hev
        exact SimN.of_sim (sim_lookup hr hu hk hz hxv (od hi) hok (by simp only [(Heap.find_some.1 hgb).2, hkk, if_true, hl]))
      · rename_i hl
        cases hev
        exact SimN.of_sim (sim_lookup hr hu hk hz hxv (od hi) hok (by simp only [(Heap.find_some.1 hgb).2, hkk, if_true, hl]))
    · rename_i e
      rw [e] at hxv
      cases hev
      exact SimN.of_sim (sim_lookup hr hu hk hz hxv (od hi) hok rfl)
  | mapUpdate tt m k x =>
    simp only [opA] at hop
    split at hop <;> try (cases hop; done)
    rename_i kt el dm dk dx hu hm hk1 hx
    simp only [Option.map_eq_some_iff] at hop
    obtain ⟨kk, hk, rfl⟩ := hop
    have hmv := od hm
    simp only [evOp] at hev
    split at hev <;> try (cases hev; done)
    rename_i hok
    split at hev <;> try (cases hev; done)
    rename_i b e
    rw [e] at hmv
    split at hev <;> try (cases hev; done)
    rename_i kk' es hgb
    split at hev <;> try (cases hev; done)
    rename_i hkk
    split at hev <;> try (cases hev; done)
    rename_i es' hp
    cases hev
    subst hkk
    obtain ⟨w', g1, g2⟩ := sim_mapUpdate (P := C.T.P) hr hu hk hmv (od hk1) (od hx) hok hgb hp
    exact SimN.of_unit g1 g2
  | insert tt m k x =>
    simp only [opA] at hop
    split at hop <;> try (cases hop; done)
    rename_i kt el dm dk dx hu hm hk1 hx
    simp only [Option.map_eq_some_iff] at hop
    obtain ⟨kk, hk, rfl⟩ := hop
    have hmv := od hm
    simp only [evOp] at hev
    split at hev <;> try (cases hev; done)
    rename_i hok
    split at hev <;> try (cases hev; done)
    rename_i b e
    rw [e] at hmv
    split at hev <;> try (cases hev; done)
    rename_i kk' es hgb
    split at hev <;> try (cases hev; done)
    rename_i hkk
    split at hev <;> try (cases hev; done)
    rename_i es' hp
    cases hev
    subst hkk
    obtain ⟨w', g1, g2⟩ := sim_mapUpdate (P := C.T.P) hr hu hk hmv (od hk1) (od hx) hok hgb hp
    exact SimN.of_unit g1 g2
  | range tt x =>
    simp only [opA] at hop
    split at hop <;> try (cases hop; done)
    rename_i hu
    simp only [Option.map_eq_some_iff] at hop
    obtain ⟨d, hd, rfl⟩ := hop
    have hx := od hd
    simp only [evOp] at hev
    split at hev <;> try (cases hev; done)
    rename_i s e
    split at hev <;> try (cases hev; done)
    rename_i b h1 ha
    cases hev
    rw [e] at hx
    exact SimN.of_sim (sim_rangeStr hr hu hx ha)
  | next x isS =>
    cases isS <;> simp only [opA, reduceCtorEq] at hop
    simp only [Option.map_eq_some_iff] at hop
    obtain ⟨d, hd, rfl⟩ := hop
    have hx := od hd
    simp only [evOp] at hev
    split at hev <;> try (cases hev; done)
    rename_i b e
    split at hev <;> try (cases hev; done)
    rename_i s p hgb
    rw [e] at hx
    exact SimN.of_sim (sim_nextStr hr hx hgb (by simpa using hev))
  | typeAssert x xt asd ok =>
    simp only [opA] at hop
    split at hop
    · cases hop
    · rename_i dd d hni hu hd
      simp only [Option.map_eq_some_iff] at hop
      obtain ⟨z, hz, rfl⟩ := hop
      have hx := od hd
      have hud : ∃ d, C.T.P.underlying asd = some d ∧ ∀ ms, d ≠ .interface ms := ⟨_, hu, fun ms e => hni ms e⟩
      simp only [evOp] at hev
      split at hev <;> try (cases hev; done)
      · rename_i tt u es
        rw [es] at hx
        have hh : h = h' := by
          split at hev
          · cases hev; rfl
          · split at hev <;> try (cases hev; done)
            cases hev; rfl
        subst hh
        refine SimN.of_sim (sim_assert hr hud hz hx ?_)
        dsimp only
        by_cases hc : tt = asd
        · rw [if_pos hc] at hev ⊢; cases hev; rfl
        · rw [if_neg hc] at hev ⊢
          split at hev <;> try (cases hev; done)
          rename_i hok
          rw [if_pos hok]; cases hev; rfl
      · rename_i es
        rw [es] at hx
        split at hev <;> try (cases hev; done)
        rename_i hok
        cases hev
        exact SimN.of_sim (sim_assert hr hud hz hx (by simp only [hok, if_true]))
    · cases hop
  | call c =>
    simp only [opA] at hop
    split at hop
    · rename_i b hb
      have := builtin_sim (ty := ty) (cs := c.args.map fun | .const _ => true | _ => false) hg hr ht hop hev
      have he : execOp a.eval { dst := dst, op := .call c, type := ty, pos := pos, after := after, guard := guard } = builtin b c.argTypes ty (c.args.map fun | .const _ => true | _ => false) (c.args.map a.eval) := resolve_builtin hb
      rw [he]; exact this
    · split at hop <;> try (cases hop; done)
      cases hop
      simp [evOp] at hev
    · cases hop
  | defer c =>
    simp only [opA] at hop
    split at hop <;> try (cases hop; done)
    split at hop <;> try (cases hop; done)
    cases hop
    simp [evOp] at hev
  | panic x =>
    simp only [opA, Option.map_eq_some_iff] at hop
    obtain ⟨d, hd, rfl⟩ := hop
    simp [evOp] at hev
  | ready _ => simp [opA] at hop
  | waits _ => simp [opA] at hop
  | sliceToArrayPointer _ _ => simp [opA] at hop
  | makeChan _ _ => simp [opA] at hop
  | mapEntry _ _ _ => simp [opA] at hop
  | entryStore _ _ _ _ => simp [opA] at hop
  | entry _ => simp [opA] at hop
  | go _ => simp [opA] at hop
  | send _ _ => simp [opA] at hop
  | recv _ _ _ => simp [opA] at hop
  | select _ _ => simp [opA] at hop
end
end Go.AM

/- WHAT A REGION WHOSE ORDER IS DRAWN NEEDS, FIRST PART: a block that another order has not made yet. -/
namespace Go.AM
section
variable {st : Stab} {σ τ ρ : Pl}

mutual
theorem VR.meet (hm : ∀ b y z, σ b = some y → τ b = some z → ρ b = some z) : ∀ (a : AV) (v0 v : Value), VR st σ a v0 → VR st τ a v → VR st ρ a v
  | .bot, _, _, _, _ => by simp only [VR]
  | .bool b, _, v, _, hv => by simpa only [VR] using hv
  | .int k n, _, v, _, hv => by simpa only [VR] using hv
  | .str s, _, v, _, hv => by simpa only [VR] using hv
  | .nilptr, _, v, _, hv => by simpa only [VR] using hv
  | .ptr b o, _, v, h0, hv => by
    simp only [VR] at h0 hv ⊢; obtain ⟨B0, m0, g1, _⟩ := h0; obtain ⟨B, m, h1, h2⟩ := hv; exact ⟨B, m, hm _ _ _ g1 h1, h2⟩
  | .pptr cs o, _, v, h0, hv => by
    simp only [VR] at h0 hv ⊢; obtain ⟨B0, d0, _, g2⟩ := h0; obtain ⟨B, d, h1, h2⟩ := hv; exact ⟨B, d, h1, PC.meet hm _ _ B d cs g2 h2⟩
  | .nilslice, _, v, _, hv => by simpa only [VR] using hv
  | .slice b o n c e, _, v, h0, hv => by
    simp only [VR] at h0 hv ⊢; obtain ⟨B0, m0, k0, g1, _⟩ := h0; obtain ⟨B, m, k, h1, h2⟩ := hv; exact ⟨B, m, k, hm _ _ _ g1 h1, h2⟩
  | .pslice cs o n c, _, v, h0, hv => by
    simp only [VR] at h0 hv ⊢; obtain ⟨B0, d0, k0, _, _, _, g4⟩ := h0; obtain ⟨B, d, k, h1, h2, h3, h4⟩ := hv; exact ⟨B, d, k, h1, h2, h3, PC.meet hm _ _ B d cs g4 h4⟩
  | .eslice, _, v, _, hv => by simpa only [VR] using hv
  | .nilmap, _, v, _, hv => by simpa only [VR] using hv
  | .map b, _, v, h0, hv => by
    simp only [VR] at h0 hv ⊢; obtain ⟨B0, m0, g1, _⟩ := h0; obtain ⟨B, m, h1, h2⟩ := hv; exact ⟨B, m, hm _ _ _ g1 h1, h2⟩
  | .func f a c, _, v, h0, hv => by
    simp only [VR] at h0 hv ⊢; obtain ⟨_, _, _, g2, g3⟩ := h0; obtain ⟨xs, ys, h1, h2, h3⟩ := hv; exact ⟨xs, ys, h1, VRs.meet hm a _ xs g2 h2, VRs.meet hm c _ ys g3 h3⟩
  | .yield l, _, v, h0, hv => by
    simp only [VR] at h0 hv ⊢; obtain ⟨B0, m0, g1, _⟩ := h0; obtain ⟨B, m, h1, h2⟩ := hv; exact ⟨B, m, hm _ _ _ g1 h1, h2⟩
  | .nilfunc, _, v, _, hv => by simpa only [VR] using hv
  | .iface t a, _, v, h0, hv => by simp only [VR] at h0 hv ⊢; obtain ⟨_, _, g2⟩ := h0; obtain ⟨x, h1, h2⟩ := hv; exact ⟨x, h1, VR.meet hm a _ x g2 h2⟩
  | .niliface, _, v, _, hv => by simpa only [VR] using hv
  | .agg cs, _, v, h0, hv => by simp only [VR] at h0 hv ⊢; obtain ⟨_, _, g2⟩ := h0; obtain ⟨x, h1, h2⟩ := hv; exact ⟨x, h1, VRs.meet hm cs _ x g2 h2⟩
  | .tuple cs, _, v, h0, hv => by simp only [VR] at h0 hv ⊢; obtain ⟨_, _, g2⟩ := h0; obtain ⟨x, h1, h2⟩ := hv; exact ⟨x, h1, VRs.meet hm cs _ x g2 h2⟩
theorem VRs.meet (hm : ∀ b y z, σ b = some y → τ b = some z → ρ b = some z) : ∀ (l : List AV) (xs0 xs : List Value), VRs st σ l xs0 → VRs st τ l xs → VRs st ρ l xs
  | [], _, xs, _, hv => by simpa only [VRs] using hv
  | a :: l, _, xs, h0, hv => by
    simp only [VRs] at h0 hv ⊢; obtain ⟨_, _, _, g2, g3⟩ := h0; obtain ⟨x, r, h1, h2, h3⟩ := hv; exact ⟨x, r, h1, VR.meet hm a _ x g2 h2, VRs.meet hm l _ r g3 h3⟩
theorem PC.meet (hm : ∀ b y z, σ b = some y → τ b = some z → ρ b = some z) : ∀ (B0 d0 B d : Nat) (l : List AV), PC st σ B0 d0 l → PC st τ B d l → PC st ρ B d l
  | B0, d0, B, d, [], _, _ => by simp only [PC]
  | B0, d0, B, d, a :: l, h0, hv => by
    simp only [PC] at h0 hv ⊢; obtain ⟨⟨_, _, g2⟩, g3⟩ := h0; obtain ⟨⟨x, h1, h2⟩, h3⟩ := hv
    exact ⟨⟨x, h1, VR.meet hm a _ x g2 h2⟩, PC.meet hm B0 (d0 + 1) B (d + 1) l g3 h3⟩
end

theorem TR.meet (hm : ∀ b y z, σ b = some y → τ b = some z → ρ b = some z) {t : Tm} {t0 t1 : Array Value} (h0 : TR st σ t t0) (h1 : TR st τ t t1) : TR st ρ t t1 :=
  fun i => VR.meet hm _ _ _ (h0 i) (h1 i)

theorem ER.meet (hm : ∀ b y z, σ b = some y → τ b = some z → ρ b = some z) {kk : KeyK} : ∀ {l : List (AV × AV)} {E0 E : List MapEntry}, ER st σ kk l E0 → ER st τ kk l E → ER st ρ kk l E
  | [], _, _, _, h => h
  | (k, v) :: l, _, _, h0, h => by
    obtain ⟨e0, r0, rfl, g1, _, g2, g3⟩ := h0
    obtain ⟨e, r, rfl, h1, hk, h2, h3⟩ := h
    exact ⟨e, r, rfl, VR.meet hm _ _ _ g1 h1, hk, VR.meet hm _ _ _ g2 h2, ER.meet hm g3 h3⟩

theorem CR.meet (hm : ∀ b y z, σ b = some y → τ b = some z → ρ b = some z) {cs : List AV} {xs0 xs : List Value} (h0 : CR st σ cs xs0) (h : CR st τ cs xs) : CR st ρ cs xs :=
  fun i a ha => let ⟨_, _, g⟩ := h0 i a ha; let ⟨x, hx, hv⟩ := h i a ha; ⟨x, hx, VR.meet hm _ _ _ g hv⟩

theorem OR.meet (hm : ∀ b y z, σ b = some y → τ b = some z → ρ b = some z) {T : Tb} {ao : AObj} {o0 o : Obj} {m0 m : Nat} (h0 : OR T st σ ao o0 m0) (h : OR T st τ ao o m) : OR T st ρ ao o m := by
  cases ao with
  | cells ty cs own frz anc =>
    obtain ⟨_, _, _, _, _, g3, _⟩ := h0
    obtain ⟨xs, lo, hi, h1, h2, h3, h4⟩ := h
    exact ⟨xs, lo, hi, h1, h2, g3.meet hm h3, h4⟩
  | map kk es =>
    obtain ⟨_, _, _, g2⟩ := h0
    obtain ⟨E, ck, h1, h2⟩ := h
    exact ⟨E, ck, h1, g2.meet hm h2⟩
  | iter s p => exact h
  | loop r =>
    obtain ⟨_, _, g2⟩ := h0
    obtain ⟨L, h1, h2⟩ := h
    exact ⟨L, h1, { h2 with tmps := g2.tmps.meet hm h2.tmps }⟩
  | dead => trivial
end

section
variable {C : Cx} {ρ ρ0 ρ2 : Pl} {h h0 h' : Heap} {w w0 w2 : World}

/-- a block more that stands for nothing -/
theorem Rel.grow (hr : Rel C ρ h w) {ao : AObj} {b : Nat} (ha : h.alloc ao = some (b, h')) : Rel C ρ h' w := by
  obtain ⟨rfl, hn, hlt, hget⟩ := Heap.alloc_eq ha
  have hold : ∀ b, b < h.next → h'.get b = h.get b := fun b hb => by rw [hget b (by omega)]; rw [if_neg (by omega)]
  refine ⟨by omega, ?_, ?_, ?_, hr.low, hr.base, hr.io⟩
  · intro b B m hb
    obtain ⟨h1, h2, ao', o', h3, h4, h5⟩ := hr.dom b B m hb
    exact ⟨by omega, h2, ao', o', by rw [hold b h1]; exact h3, h4, h5⟩
  · intro b1 b2 B m1 m2 o1 hb1 hb2 hne hg ho
    rw [hold b1 (hr.dom _ _ _ hb1).1] at hg
    rw [hold b2 (hr.dom _ _ _ hb2).1]
    exact hr.inj b1 b2 B m1 m2 o1 hb1 hb2 hne hg ho
  · intro b B m o hb hg a n hin
    rw [hold b (hr.dom _ _ _ hb).1] at hg
    exact hr.ancs b B m o hb hg a n hin

theorem Rel.none (hr : Rel C ρ h w) {b : Nat} (hb : h.next ≤ b) : ρ b = none := by
  cases hx : ρ b with
  | none => rfl
  | some x => have := (hr.dom _ x.1 x.2 hx).1; omega

theorem Post.grow (hp : Post C ρ0 h0 w0 ρ h w) {ao : AObj} {b : Nat} (ha : h.alloc ao = some (b, h')) : Post C ρ0 h0 w0 ρ h' w := by
  obtain ⟨rfl, hn, hlt, hget⟩ := Heap.alloc_eq ha
  refine ⟨hp.le, hp.rel.grow ha, hp.size, hp.ext, hp.new, by have := hp.next; omega, fun b hb hnone => ?_⟩
  obtain ⟨h1, h2⟩ := hp.old b hb hnone
  have := hp.next
  exact ⟨h1, by rw [hget b (by omega), if_neg (by omega)]; exact h2⟩

/-- the block that the order of the reference has made already is made now -/
theorem Post.fill (hp : Post C ρ0 h0 w0 ρ h w) {ao : AObj} {bp b2 b3 B m B3 m3 : Nat} {h2 h3 hd : Heap} {ρ3 : Pl} {ad : AObj} (hbp0 : h0.next ≤ bp) (hbp : bp < h.next) (hnone : ρ bp = none) (hg : h.get bp = some ao)
    (ha2 : h.alloc ao = some (b2, h2)) (q : Post C ρ h w ρ2 h2 w2) (hB : ρ2 b2 = some (B, m))
    (had : h.alloc ad = some (b2, hd)) (ha3 : hd.alloc ao = some (b3, h3)) (q3 : Post C ρ hd w ρ3 h3 w2) (hB3 : ρ3 b3 = some (B3, m3)) :
    Post C ρ0 h0 w0 (ρ.upd bp (B, m)) h w2 ∧ (ρ.upd bp (B, m)) bp = some (B, m) ∧ Pl.le ρ (ρ.upd bp (B, m)) ∧ (∀ b, b < h.next → b ≠ bp → ρ b = none → (ρ.upd bp (B, m)) b = none) := by
  have hr := hp.rel
  obtain ⟨rfl, hn2, hlt, hget2⟩ := Heap.alloc_eq ha2
  obtain ⟨_, hnd, _, hgetd⟩ := Heap.alloc_eq had
  obtain ⟨rfl, hn3, hlt3, hget3⟩ := Heap.alloc_eq ha3
  have hold : ∀ b, b < h.next → h2.get b = h.get b := fun b hb => by rw [hget2 b (by omega)]; rw [if_neg (by omega)]
  have hnew : h2.get h.next = some ao := by rw [hget2 _ (by omega)]; simp
  have hnew3 : h3.get hd.next = some ao := by rw [hget3 _ (by omega)]; simp
  have hroom := hr.room
  have d2 : ∀ b y, ρ2 b = some y → b ≠ h.next → ρ b = some y := fun b y hb hne => by
    have hlt2 := (q.rel.dom b y.1 y.2 hb).1
    cases hx : ρ b with
    | none => have := (q.old b (by omega) hx).1; rw [hb] at this; cases this
    | some x => have := q.le b x hx; rw [hb] at this; cases this; rfl
  have d3 : ∀ b y, ρ3 b = some y → b ≠ hd.next → ρ b = some y := fun b y hb hne => by
    have hlt2 := (q3.rel.dom b y.1 y.2 hb).1
    cases hx : ρ b with
    | none => have := (q3.old b (by omega) hx).1; rw [hb] at this; cases this
    | some x => have := q3.le b x hx; rw [hb] at this; cases this; rfl
  have hself : (ρ.upd bp (B, m)) bp = some (B, m) := by simp [Pl.upd]
  have hle : Pl.le ρ (ρ.upd bp (B, m)) := fun b x hb => by
    simp only [Pl.upd]
    split
    · rename_i e; rw [e, hnone] at hb; cases hb
    · exact hb
  have hother : ∀ b, b ≠ bp → (ρ.upd bp (B, m)) b = ρ b := fun b hb => by simp only [Pl.upd]; rw [if_neg hb]
  have m1 : ∀ b y z, ρ b = some y → ρ2 b = some z → ρ b = some z := fun b y z h1 h2 => by
    have := q.le b y h1; rw [h2] at this; cases this; exact h1
  have m2 : ∀ b y z, ρ3 b = some y → ρ2 b = some z → ρ b = some z := fun b y z h1 h2 => by
    by_cases e : b = h.next
    · have := (q3.old b (by omega) (hr.none (by omega))).1
      rw [h1] at this; cases this
    · exact d2 b z h2 e
  refine ⟨⟨Pl.le_trans hp.le hle, ?_, Nat.le_trans hp.size q.size, (hp.trans q).ext, ?_, hp.next, ?_⟩, hself, hle, fun b _ hne hb => by rw [hother b hne]; exact hb⟩
  · refine ⟨hroom, ?_, ?_, ?_, q.rel.low, q.rel.base, q.rel.io⟩
    · intro b B' m' hb
      by_cases e : b = bp
      · subst e
        rw [hself] at hb; cases hb
        obtain ⟨_, c2, ao2, o2, c3, c4, c5⟩ := q.rel.dom _ _ _ hB
        rw [hnew] at c3; cases c3
        obtain ⟨_, _, ao3, o3, e3, _, e5⟩ := q3.rel.dom _ _ _ hB3
        rw [hnew3] at e3; cases e3
        exact ⟨hbp, c2, ao, o2, hg, c4, (OR.meet m2 e5 c5).mono hle⟩
      · rw [hother b e] at hb
        obtain ⟨c1, c2, ao1, o1, c3, c4, c5⟩ := hr.dom b B' m' hb
        obtain ⟨_, _, ao2, o2, e3, e4, e5⟩ := q.rel.dom b B' m' (q.le _ _ hb)
        rw [hold b c1, c3] at e3; cases e3
        exact ⟨c1, c2, ao1, o2, c3, e4, (OR.meet m1 c5 e5).mono hle⟩
    · intro b1 b2 B' m1' m2' o1 hb1 hb2 hne hg1 ho1
      by_cases e1 : b1 = bp
      · subst e1
        rw [hself] at hb1; cases hb1
        rw [hother b2 (fun e => hne e.symm)] at hb2
        rw [hg] at hg1; cases hg1
        have l2 := (hr.dom _ _ _ hb2).1
        have := q.rel.inj h.next b2 _ _ _ ao hB (q.le _ _ hb2) (by omega) hnew ho1
        rw [hold b2 l2] at this; exact this
      · rw [hother b1 e1] at hb1
        have l1 := (hr.dom _ _ _ hb1).1
        by_cases e2 : b2 = bp
        · subst e2
          rw [hself] at hb2; cases hb2
          have := q.rel.inj b1 h.next _ _ _ o1 (q.le _ _ hb1) hB (by omega) (by rw [hold b1 l1]; exact hg1) ho1
          rw [hnew] at this
          rw [hg]
          rcases this with hd | ⟨ty, cs, frz, anc2, n, hc, hin, hle'⟩
          · exact .inl hd
          · obtain ⟨_, x, hx⟩ := hr.ancs b1 _ _ o1 hb1 hg1 _ n hin
            rw [hr.none (Nat.le_refl _)] at hx; cases hx
        · rw [hother b2 e2] at hb2
          have l2 := (hr.dom _ _ _ hb2).1
          exact hr.inj b1 b2 B' m1' m2' o1 hb1 hb2 hne hg1 ho1
    · intro b B' m' o hb hgb a n hin
      by_cases e : b = bp
      · subst e
        rw [hg] at hgb; cases hgb
        obtain ⟨hne, x, hx⟩ := q.rel.ancs _ _ _ _ hB hnew a n hin
        have := d2 a x hx hne
        exact ⟨(fun e => by rw [e, hnone] at this; cases this), x, hle _ _ this⟩
      · rw [hother b e] at hb
        obtain ⟨hne, x, hx⟩ := hr.ancs b B' m' o hb hgb a n hin
        exact ⟨hne, x, hle _ _ hx⟩
  · intro b B' m' hb hn0
    by_cases e : b = bp
    · subst e
      rw [hself] at hb; cases hb
      rcases q.new h.next _ _ hB (hr.none (Nat.le_refl _)) with c | ⟨b0, m0, c⟩
      · exact .inl (Nat.le_trans hp.size c)
      · cases hx : ρ0 b0 with
        | some x => have := hp.le b0 x hx; rw [c] at this; cases this; exact .inr ⟨b0, m0, hx⟩
        | none => exact hp.new b0 _ _ c hx
    · rw [hother b e] at hb; exact hp.new b B' m' hb hn0
  · intro b hb hn0
    obtain ⟨c1, c2⟩ := hp.old b hb hn0
    exact ⟨by rw [hother b (by omega)]; exact c1, c2⟩
end
end Go.AM

/- WHAT A REGION WHOSE ORDER IS DRAWN NEEDS, SECOND PART: what an operation looks at. -/
namespace Go.AM
section
variable {t t1 t2 : Tm} {h h' g : Heap}

theorem evalAll_congr : ∀ {l : List Opd}, (∀ x ∈ l, x.ev t1 = x.ev t2) → evalAll t1 l = evalAll t2 l
  | [], _ => rfl
  | o :: l, hx => by
    simp only [evalAll]
    rw [hx o (List.mem_cons_self ..), evalAll_congr (l := l) fun x hm => hx x (List.mem_cons_of_mem _ hm)]

theorem evParts_congr : ∀ {l : List (Nat × Nat × Opd)}, (∀ x ∈ l.map (·.2.2), x.ev t1 = x.ev t2) → evParts t1 l = evParts t2 l
  | [], _ => rfl
  | (a, b, o) :: l, hx => by
    simp only [evParts]
    rw [hx o (by simp), evParts_congr (l := l) fun x hm => hx x (by rw [List.map_cons]; exact List.mem_cons_of_mem _ hm)]

theorem evPartsS_congr {e : Nat} : ∀ {l : List (Nat × Opd)}, (∀ x ∈ l.map (·.2), x.ev t1 = x.ev t2) → evPartsS e t1 l = evPartsS e t2 l
  | [], _ => rfl
  | (a, o) :: l, hx => by
    simp only [evPartsS]
    rw [hx o (by simp), evPartsS_congr (l := l) fun x hm => hx x (by rw [List.map_cons]; exact List.mem_cons_of_mem _ hm)]

theorem boundO_congr {x : Option Opd} {d m : Nat} (hx : ∀ o ∈ x.toList, o.ev t1 = o.ev t2) : boundO t1 x d m = boundO t2 x d m := by
  cases x with
  | none => rfl
  | some o => simp only [boundO]; rw [hx o (by simp)]

theorem capA_congr {x : Option Opd} {c : Option Nat} {n : Nat} (hx : ∀ o ∈ x.toList, o.ev t1 = o.ev t2) : capA t1 c n x = capA t2 c n x := by
  cases x with
  | none => rfl
  | some o => simp only [capA]; rw [hx o (by simp)]

theorem ev_congr {o : AOp} (hx : ∀ x ∈ opds o, x.ev t1 = x.ev t2) : evOp o t1 h = evOp o t2 h := by
  cases o with
  | build zs ps => simp only [evOp]; rw [evParts_congr (by simpa only [opds] using hx)]
  | buildSlice ty zs e n ps => simp only [evOp]; rw [evPartsS_congr (by simpa only [opds] using hx)]
  | mkFunc f a c =>
    simp only [opds] at hx
    simp only [evOp]; rw [evalAll_congr fun x hm => hx x (List.mem_append_left _ hm), evalAll_congr fun x hm => hx x (List.mem_append_right _ hm)]
  | sliceStr x lo hi =>
    simp only [opds] at hx
    have e1 := hx x (List.mem_cons_self ..)
    have e2 : ∀ o ∈ lo.toList, o.ev t1 = o.ev t2 := fun o hm => hx o (List.mem_cons_of_mem _ (List.mem_append_left _ hm))
    have e3 : ∀ o ∈ hi.toList, o.ev t1 = o.ev t2 := fun o hm => hx o (List.mem_cons_of_mem _ (List.mem_append_right _ hm))
    simp only [evOp, sliceStrA, e1, fun d m => boundO_congr (d := d) (m := m) e2, fun d m => boundO_congr (d := d) (m := m) e3]
  | sliceSl e x lo hi mx =>
    simp only [opds] at hx
    have e1 := hx x (List.mem_cons_self ..)
    have e2 : ∀ o ∈ lo.toList, o.ev t1 = o.ev t2 := fun o hm => hx o (List.mem_cons_of_mem _ (List.mem_append_left _ (List.mem_append_left _ hm)))
    have e3 : ∀ o ∈ hi.toList, o.ev t1 = o.ev t2 := fun o hm => hx o (List.mem_cons_of_mem _ (List.mem_append_left _ (List.mem_append_right _ hm)))
    have e4 : ∀ o ∈ mx.toList, o.ev t1 = o.ev t2 := fun o hm => hx o (List.mem_cons_of_mem _ (List.mem_append_right _ hm))
    simp only [evOp, sliceSlA, e1, fun d m => boundO_congr (d := d) (m := m) e2, fun d m => boundO_congr (d := d) (m := m) e3, fun d m => boundO_congr (d := d) (m := m) e4,
      fun c n => capA_congr (c := c) (n := n) e4]
  | sliceArr n e x lo hi =>
    simp only [opds] at hx
    have e1 := hx x (List.mem_cons_self ..)
    have e2 : ∀ o ∈ lo.toList, o.ev t1 = o.ev t2 := fun o hm => hx o (List.mem_cons_of_mem _ (List.mem_append_left _ hm))
    have e3 : ∀ o ∈ hi.toList, o.ev t1 = o.ev t2 := fun o hm => hx o (List.mem_cons_of_mem _ (List.mem_append_right _ hm))
    simp only [evOp, e1, fun d m => boundO_congr (d := d) (m := m) e2, fun d m => boundO_congr (d := d) (m := m) e3]
  | minmax b x l =>
    simp only [opds] at hx
    simp only [evOp]; rw [hx x (List.mem_cons_self ..), evalAll_congr fun y hm => hx y (List.mem_cons_of_mem _ hm)]
  | callv f l => rfl
  | deferv f l => rfl
  | panic x => rfl
  | recover => rfl
  | alloc ty zs => rfl
  | makeMap kk r =>
    simp only [opds] at hx
    have he : hintA t1 r = hintA t2 r := by
      cases r with
      | none => rfl
      | some o => simp only [hintA, hx o (by simp)]
    simp only [evOp, he]
  | pick a b c =>
    simp only [opds] at hx
    simp only [evOp]; rw [hx a (by simp), hx b (by simp), hx c (by simp)]
  | mapUpdate kk a b c =>
    simp only [opds] at hx
    simp only [evOp]; rw [hx a (by simp), hx b (by simp), hx c (by simp)]
  | store n a b => simp only [opds] at hx; simp only [evOp]; rw [hx a (by simp), hx b (by simp)]
  | bin n q a b => simp only [opds] at hx; simp only [evOp]; rw [hx a (by simp), hx b (by simp)]
  | makeSlice _ _ _ _ a b => simp only [opds] at hx; simp only [evOp]; rw [hx a (by simp), hx b (by simp)]
  | idxAddrS _ a b => simp only [opds] at hx; simp only [evOp]; rw [hx a (by simp), hx b (by simp)]
  | idxAddrA _ _ a b => simp only [opds] at hx; simp only [evOp]; rw [hx a (by simp), hx b (by simp)]
  | idxStr a b => simp only [opds] at hx; simp only [evOp]; rw [hx a (by simp), hx b (by simp)]
  | idxArr _ _ _ a b => simp only [opds] at hx; simp only [evOp]; rw [hx a (by simp), hx b (by simp)]
  | lookup _ _ _ a b => simp only [opds] at hx; simp only [evOp]; rw [hx a (by simp), hx b (by simp)]
  | append k _ _ _ _ a b => simp only [opds] at hx; simp only [evOp]; rw [hx a (by simp), hx b (by simp)]
  | copy _ a b => simp only [opds] at hx; simp only [evOp]; rw [hx a (by simp), hx b (by simp)]
  | unsafeString _ a b => simp only [opds] at hx; simp only [evOp]; rw [hx a (by simp), hx b (by simp)]
  | move x => simp only [opds] at hx; simp only [evOp]; rw [hx x (by simp)]
  | lenMap x => simp only [opds] at hx; simp only [evOp]; rw [hx x (by simp)]
  | box _ x => simp only [opds] at hx; simp only [evOp]; rw [hx x (by simp)]
  | load _ _ x => simp only [opds] at hx; simp only [evOp]; rw [hx x (by simp)]
  | nilCheck x => simp only [opds] at hx; simp only [evOp]; rw [hx x (by simp)]
  | un _ x => simp only [opds] at hx; simp only [evOp]; rw [hx x (by simp)]
  | conv _ x => simp only [opds] at hx; simp only [evOp]; rw [hx x (by simp)]
  | mkIface _ x => simp only [opds] at hx; simp only [evOp]; rw [hx x (by simp)]
  | fieldAddr _ x => simp only [opds] at hx; simp only [evOp]; rw [hx x (by simp)]
  | field _ _ _ x => simp only [opds] at hx; simp only [evOp]; rw [hx x (by simp)]
  | assertT _ _ _ x => simp only [opds] at hx; simp only [evOp]; rw [hx x (by simp)]
  | extract x _ => simp only [opds] at hx; simp only [evOp]; rw [hx x (by simp)]
  | len _ x => simp only [opds] at hx; simp only [evOp]; rw [hx x (by simp)]
  | cap x => simp only [opds] at hx; simp only [evOp]; rw [hx x (by simp)]
  | sliceData x => simp only [opds] at hx; simp only [evOp]; rw [hx x (by simp)]
  | rangeStr x => simp only [opds] at hx; simp only [evOp]; rw [hx x (by simp)]
  | nextStr x => simp only [opds] at hx; simp only [evOp]; rw [hx x (by simp)]

/-- what a new block is named by -/
inductive KForm : (Nat → AV) → Prop where
  | ptr : KForm fun b => .ptr b 0
  | map : KForm fun b => .map b
  | slice (n : Nat) (c : Option Nat) (e : Nat) : KForm fun b => .slice b 0 n c e

theorem KForm.vr {st : Stab} {ρ : Pl} {k : Nat → AV} (hk : KForm k) {b : Nat} {x : Value} (hv : VR st ρ (k b) x) :
    ∃ B m, ρ b = some (B, m) ∧ ∀ (ρ' : Pl) b', ρ' b' = some (B, m) → VR st ρ' (k b') x := by
  cases hk with
  | ptr => simp only [VR] at hv ⊢; obtain ⟨B, m, h1, h2⟩ := hv; exact ⟨B, m, h1, fun ρ' b' hb => ⟨B, m, hb, h2⟩⟩
  | map => simp only [VR] at hv ⊢; obtain ⟨B, m, h1, h2⟩ := hv; exact ⟨B, m, h1, fun ρ' b' hb => ⟨B, m, hb, h2⟩⟩
  | slice n c e => simp only [VR] at hv ⊢; obtain ⟨B, m, j, h1, h2⟩ := hv; exact ⟨B, m, h1, fun ρ' b' hb => ⟨B, m, j, hb, h2⟩⟩

theorem newCells_form {ty b : Nat} {cs : List AV} (hn : newCells h ty cs = some (b, h')) : ∃ ao, h.alloc ao = some (b, h') ∧ ∀ g b' g', g.alloc ao = some (b', g') → newCells g ty cs = some (b', g') := by
  exact ⟨_, hn, fun g b' g' hg => hg⟩

theorem newCellsS_form {ty b : Nat} {cs : List AV} (hn : newCellsS h ty cs = some (b, h')) : ∃ ao, h.alloc ao = some (b, h') ∧ ∀ g b' g', g.alloc ao = some (b', g') → newCellsS g ty cs = some (b', g') := by
  unfold newCellsS at hn
  split at hn <;> try (cases hn; done)
  rename_i hc
  exact ⟨_, hn, fun g b' g' hg => by unfold newCellsS; rw [if_pos hc]; exact hg⟩

theorem A_form {o : AOp} {v : AV} (hc : o.cl = .A) (hev : evOp o t h = some (v, h')) :
    ∃ ao b k, KForm k ∧ h.alloc ao = some (b, h') ∧ v = k b ∧ ∀ g b' g', g.alloc ao = some (b', g') → evOp o t g = some (k b', g') := by
  cases o <;> simp only [AOp.cl, reduceCtorEq] at hc
  case alloc ty zs =>
    simp only [evOp] at hev ⊢
    split at hev <;> try (cases hev; done)
    rename_i hn
    cases hev
    obtain ⟨ao, h1, h2⟩ := newCells_form hn
    exact ⟨ao, _, _, .ptr, h1, rfl, fun g b' g' hg => by rw [h2 g b' g' hg]⟩
  case box ty x =>
    simp only [evOp] at hev ⊢
    split at hev <;> try (cases hev; done)
    rename_i hac
    split at hev <;> try (cases hev; done)
    rename_i hn
    cases hev
    obtain ⟨ao, h1, h2⟩ := newCells_form hn
    exact ⟨ao, _, _, .ptr, h1, rfl, fun g b' g' hg => by rw [if_pos hac, h2 g b' g' hg]⟩
  case buildSlice ty zs e n ps =>
    simp only [evOp] at hev ⊢
    split at hev <;> try (cases hev; done)
    rename_i cs hf
    split at hev <;> try (cases hev; done)
    rename_i hn
    cases hev
    obtain ⟨ao, h1, h2⟩ := newCells_form hn
    exact ⟨ao, _, _, .slice _ _ _, h1, rfl, fun g b' g' hg => by rw [h2 g b' g' hg]⟩
  case makeMap kk r =>
    simp only [evOp] at hev ⊢
    split at hev <;> try (cases hev; done)
    rename_i hint
    split at hev <;> try (cases hev; done)
    rename_i hn
    cases hev
    exact ⟨_, _, _, .map, hn, rfl, fun g b' g' hg => by rw [if_pos hint, hg]⟩
  case makeSlice ty e bytes zs l c =>
    simp only [evOp] at hev ⊢
    split at hev <;> try (cases hev; done)
    split at hev <;> try (cases hev; done)
    rename_i hc
    split at hev <;> try (cases hev; done)
    rename_i hn
    cases hev
    obtain ⟨ao, h1, h2⟩ := newCells_form hn
    exact ⟨ao, _, _, .slice _ _ _, h1, rfl, fun g b' g' hg => by rw [if_pos hc, h2 g b' g' hg]⟩
  case conv c x =>
    cases c <;> simp only [reduceCtorEq] at hc
    simp only [evOp, convA] at hev ⊢
    split at hev <;> try (cases hev; done)
    split at hev <;> try (cases hev; done)
    rename_i hn
    cases hev
    obtain ⟨ao, h1, h2⟩ := newCellsS_form hn
    exact ⟨ao, _, _, .slice _ _ _, h1, rfl, fun g b' g' hg => by rw [h2 g b' g' hg]⟩
  case rangeStr x =>
    simp only [evOp] at hev ⊢
    split at hev <;> try (cases hev; done)
    split at hev <;> try (cases hev; done)
    rename_i hn
    cases hev
    exact ⟨_, _, _, .ptr, hn, rfl, fun g b' g' hg => by rw [hg]⟩

/-- all that was there is there -/
def Heap.sub (h g : Heap) : Prop := ∀ b ao, h.find b = some ao → g.find b = some ao

theorem readAt_sub {b o n : Nat} {l : List AV} (hs : h.sub g) (hr : readAt h b o n = some l) : readAt g b o n = some l := by
  unfold readAt at hr ⊢
  split at hr <;> try (cases hr; done)
  rename_i hb
  rw [hs _ _ hb]; exact hr

theorem L_form {o : AOp} {v : AV} (hc : o.cl = .L) (hev : evOp o t h = some (v, h')) : h' = h ∧ ∀ g, h.sub g → evOp o t g = some (v, g) := by
  cases o <;> simp only [AOp.cl, reduceCtorEq] at hc
  case load ag n x =>
    simp only [evOp] at hev ⊢
    split at hev <;> try (cases hev; done)
    · split at hev <;> try (cases hev; done)
      rename_i hrd
      split at hev <;> try (cases hev; done)
      rename_i hv
      cases hev
      exact ⟨rfl, fun g hs => by rw [readAt_sub hs hrd]; simp only [hv]⟩
    · split at hev <;> try (cases hev; done)
      rename_i hrd
      split at hev <;> try (cases hev; done)
      rename_i hv
      cases hev
      exact ⟨rfl, fun g hs => by simp only [hv]⟩
  case lookup kk z ok x i =>
    simp only [evOp] at hev ⊢
    split at hev <;> try (cases hev; done)
    rename_i hk
    simp only [if_pos hk]
    split at hev <;> try (cases hev; done)
    · split at hev <;> try (cases hev; done)
      rename_i hb
      split at hev <;> try (cases hev; done)
      rename_i hkk
      split at hev <;> try (cases hev; done)
      · rename_i hl; cases hev; exact ⟨rfl, fun g hs => by rw [hs _ _ hb]; simp only [if_pos hkk, hl]⟩
      · rename_i hl; cases hev; exact ⟨rfl, fun g hs => by rw [hs _ _ hb]; simp only [if_pos hkk, hl]⟩
    · cases hev; exact ⟨rfl, fun g _ => rfl⟩
  case lenMap x =>
    simp only [evOp] at hev ⊢
    split at hev <;> try (cases hev; done)
    · cases hev; exact ⟨rfl, fun g _ => rfl⟩
    · split at hev <;> try (cases hev; done)
      rename_i hb
      cases hev
      exact ⟨rfl, fun g hs => by rw [hs _ _ hb]⟩
  case sliceSl e x lo hi mx =>
    simp only [evOp] at hev ⊢
    split at hev <;> try (cases hev; done)
    rename_i X hX
    split at hev <;> try (cases hev; done)
    rename_i r hr
    cases hev
    refine ⟨rfl, fun g hs => ?_⟩
    have key : extA g (x.ev t) e = some X := by
      revert hX
      cases x.ev t with
      | slice b o n cap e' =>
        cases cap with
        | some c => exact fun h => h
        | none =>
          simp only [extA]
          cases hf : h.find b with
          | none => intro h; cases h
          | some ao => rw [hs _ _ hf]; exact fun h => h
      | _ => exact fun h => h
    rw [key]
    simp only [hr]
  case conv c x =>
    cases c <;> simp only [reduceCtorEq] at hc
    case upc ty n =>
      simp only [evOp, convA] at hev ⊢
      split at hev <;> try (cases hev; done)
      · cases hev; exact ⟨rfl, fun g _ => rfl⟩
      · split at hev <;> try (cases hev; done)
        rename_i hb
        split at hev <;> try (cases hev; done)
        rename_i hcc
        cases hev
        exact ⟨rfl, fun g hs => by rw [hs _ _ hb]; simp only [if_pos hcc]⟩
    case b2s =>
      simp only [evOp, convA] at hev ⊢
      split at hev <;> try (cases hev; done)
      rename_i l hl
      cases hev
      refine ⟨rfl, fun g hs => ?_⟩
      have : b2sA g (x.ev t) = some l := by
        unfold b2sA at hl ⊢
        split at hl <;> try (cases hl; done)
        · exact hl
        · exact hl
        · split at hl <;> try (cases hl; done)
          rename_i he
          rw [if_pos he]
          split at hl
          · rename_i hn; rw [if_pos hn]; exact hl
          · rename_i hn; rw [if_neg hn]
            split at hl <;> try (cases hl; done)
            rename_i hrd
            rw [readAt_sub hs hrd]; exact hl
        · exact hl
      rw [this]

theorem P_form {o : AOp} {v : AV} (hc : o.cl = .P) (hev : evOp o t h = some (v, h')) : h' = h ∧ ∀ g, evOp o t g = some (v, g) := by
  cases o <;> simp only [AOp.cl, reduceCtorEq] at hc
  case conv c x =>
    cases c <;> simp only [reduceCtorEq] at hc <;> simp only [evOp, convA] at hev ⊢ <;> (repeat' split at hev) <;> first | (cases hev; done) | (cases hev; exact ⟨rfl, fun g => by first | rfl | simp_all⟩)
  all_goals simp only [evOp] at hev ⊢
  all_goals repeat' split at hev
  all_goals first
    | (cases hev; done)
    | (cases hev; exact ⟨rfl, fun g => by first | rfl | simp_all⟩)
end
end Go.AM

/- ONE OPERATION OF A REGION, the calls with it. -/
namespace Go.AM

theorem getT_putD (t : Tm) (d : Option Nat) (j : Nat) (v : AV) : getT (putD t d v) j = if d = some j then v else getT t j := by
  cases d with
  | none => simp [putD]
  | some d => simp only [putD, getT_setT, Option.some.injEq]

section
variable {C : Cx} {ρ ρ' : Pl} {h h' : Heap} {w w' : World} {t : Tm} {a : Act}

theorem TR.put {st : Stab} {tmps : Array Value} {d : Option Nat} {v : AV} {x : Value} (ht : TR st ρ t tmps) (hv : VR st ρ v x) (hd : ∀ j, d = some j → j < tmps.size) :
    TR st ρ (putD t d v) (({ tmps := tmps, defers := [] } : Act).put d x).tmps := by
  intro i
  rw [getT_putD]
  cases d with
  | none => rw [if_neg (by simp)]; exact ht i
  | some j =>
    have hj := hd j rfl
    simp only [Act.put, Option.some.injEq]
    by_cases e : j = i
    · subst e
      rw [if_pos rfl]
      simp [Array.getD_eq_getD_getElem?, hj, hv]
    · rw [if_neg e]
      have := ht i
      simpa [Array.getD_eq_getD_getElem?, Array.getElem?_setIfInBounds_ne e] using this

def DR (C : Cx) (ρ : Pl) (w : World) : List ADef → List Deferred → Prop
  | [], ds => ds = [] ∧ C.base ≤ w.heap.size
  | .call f args :: l, ds => ∃ xs cap r, ds = { target := .fn (.func f) cap, args := xs } :: r ∧ VRs C.st ρ args (xs ++ cap).toList ∧ DR C ρ w l r
  | .mark :: l, ds => ∃ b r, ds = { target := .collected b, args := #[] } :: r ∧ (C.base ≤ b ∧ ∀ d ∈ r, d.target ≠ .collected b) ∧ w.heap[b]? = some (.deferred (some [])) ∧ (∀ x m, ρ x ≠ some (b, m)) ∧ DR C ρ w l r

theorem DR.mono (hp : Post C ρ h w ρ' h' w') : ∀ {d : List ADef} {ds : List Deferred}, DR C ρ w d ds → DR C ρ' w' d ds
  | [], _, hd => ⟨hd.1, Nat.le_trans hd.2 hp.size⟩
  | .call f args :: l, _, hd => by
    obtain ⟨xs, cap, r, rfl, h1, h2⟩ := hd
    exact ⟨xs, cap, r, rfl, VRs.mono hp.le _ _ h1, DR.mono hp h2⟩
  | .mark :: l, _, hd => by
    obtain ⟨b, r, rfl, h0, h1, h2, h3⟩ := hd
    have hb := (Array.getElem?_eq_some_iff.1 h1).1
    exact ⟨b, r, rfl, h0, (hp.ext b hb h2).trans h1, hp.image hb h2, DR.mono hp h3⟩

theorem DR.base : ∀ {d : List ADef} {ds : List Deferred}, DR C ρ w d ds → C.base ≤ w.heap.size ∧ ∀ b, w.heap.size ≤ b → ∀ x ∈ ds, x.target ≠ .collected b
  | [], _, hd => ⟨hd.2, fun b _ x hx => by rw [hd.1] at hx; cases hx⟩
  | .call f args :: l, _, hd => by
    obtain ⟨xs, cap, r, rfl, h1, h2⟩ := hd
    refine ⟨(DR.base h2).1, fun b hb x hx => ?_⟩
    rcases List.mem_cons.1 hx with rfl | hx
    · simp
    · exact (DR.base h2).2 b hb x hx
  | .mark :: l, _, hd => by
    obtain ⟨b0, r, rfl, h0, h1, h2, h3⟩ := hd
    have hb0 := (Array.getElem?_eq_some_iff.1 h1).1
    refine ⟨(DR.base h3).1, fun b hb x hx => ?_⟩
    rcases List.mem_cons.1 hx with rfl | hx
    · simp only [ne_eq, Target.collected.injEq]; omega
    · exact (DR.base h3).2 b hb x hx

theorem DR.other {b : Nat} {o : Obj} : ∀ {d : List ADef} {ds : List Deferred}, DR C ρ w d ds → (∀ x ∈ ds, x.target ≠ .collected b) → DR C ρ (w.putObj b o) d ds
  | [], _, hd, _ => ⟨hd.1, by simpa using hd.2⟩
  | .call f args :: l, _, hd, hn => by
    obtain ⟨xs, cap, r, rfl, h1, h2⟩ := hd
    exact ⟨xs, cap, r, rfl, h1, DR.other h2 fun x hx => hn x (List.mem_cons_of_mem _ hx)⟩
  | .mark :: l, _, hd, hn => by
    obtain ⟨b0, r, rfl, h0, h1, h2, h3⟩ := hd
    have hne : b0 ≠ b := fun e => hn _ (List.mem_cons_self ..) (by rw [e])
    exact ⟨b0, r, rfl, h0, by rw [World.putObj_heap_other hne]; exact h1, h2, DR.other h3 fun x hx => hn x (List.mem_cons_of_mem _ hx)⟩

structure StR (C : Cx) (nt : Nat) (ρ : Pl) (s : St) (a : Act) (w : World) : Prop where
  rel : Rel C ρ s.h w
  tmps : TR C.st ρ s.t a.tmps
  room : nt ≤ a.tmps.size
  defers : DR C ρ w s.d a.defers

theorem StR.put {nt : Nat} {s : St} (hs : StR C nt ρ s a w) (hp : Post C ρ s.h w ρ' h' w') {d : Option Nat} {v : AV} {x : Value} (hd : ∀ j, d = some j → j < nt) (hv : VR C.st ρ' v x) :
    StR C nt ρ' { s with t := putD s.t d v, h := h' } (a.put d x) w' := by
  refine ⟨hp.rel, ?_, ?_, ?_⟩
  · have := TR.put (hs.tmps.mono hp.le) hv (fun j hj => Nat.lt_of_lt_of_le (hd j hj) hs.room)
    cases d <;> exact this
  · have := hs.room
    cases d <;> simp [Act.put, this]
  · have := DR.mono hp hs.defers
    cases d <;> exact this

theorem StR.post {nt : Nat} {s : St} (hs : StR C nt ρ s a w) (hp : Post C ρ s.h w ρ' h' w') : StR C nt ρ' { s with h := h' } a w' :=
  ⟨hp.rel, hs.tmps.mono hp.le, hs.room, DR.mono hp hs.defers⟩

/-- how a call ends -/
def EndR (C : Cx) (ρ : Pl) : ARes → Ending → Prop
  | .ret v, .returned x => VR C.st ρ v x
  | .pan v, .panicked ch => ∃ x, ch = [{ v := x, recovered := false }] ∧ VR C.st ρ v x
  | _, _ => False

def CallR (C : Cx) (ρ : Pl) (h : Heap) (w : World) (r : ARes) (h' : Heap) : Ending → World → Prop := fun e w' => ∃ ρ', Post C ρ h w ρ' h' w' ∧ EndR C ρ' r e

def WhoOK (C : Cx) (who : Who) (xs : List Value) (ρ : Pl) (w : World) (R : Ending → World → Prop) : Prop :=
  match who with
  | .fn f => (∃ v w', (callFunc f xs.toArray).run C.T.P w = .ok (.value v) w' ∧ R (.returned v) w' ∧ ∀ B, Value.func (.yield B) #[] #[] ∉ xs) ∨ ((callFunc f xs.toArray).run C.T.P w = .ok (.enter f xs.toArray) w ∧ CallsIn Fence.wide 0 C.T.P f xs.toArray w R)
  | .round b => ∃ B m g tmps assign body, ρ b = some (B, m) ∧ (Instr.yield B xs.toArray).run C.T.P w = .ok (.round B g tmps assign body) w ∧ RoundIn Fence.wide 0 C.T.P B g tmps assign body w R

/-- a loop whose round is called has its place -/
def WhoIn (ρ : Pl) : Who → Prop
  | .fn _ => True
  | .round b => ∃ x, ρ b = some x

/-- what is known of the calls -/
def RecOK (C : Cx) (rc : Rec) : Prop := ∀ who args h r h' ρ w xs, rc who args h = some (r, h') → Rel C ρ h w → VRs C.st ρ args xs → WhoIn ρ who → WhoOK C who xs ρ w (CallR C ρ h w r h')

def AOp.plain : AOp → Bool
  | .callv .. | .deferv .. | .panic _ | .recover => false
  | _ => true

theorem evOper_plain {rc : Rec} {d : Option Nat} {g : Option (Nat × Bool)} {op : AOp} {s : St} (hp : op.plain = true) :
    evOper rc ⟨d, g, op⟩ s = (match wantedA s.t g with
      | some true => (match evOp op s.t s.h with | some (v, h) => some (.nrm, { s with t := putD s.t d v, h := h }) | none => none)
      | some false => some (.nrm, { s with t := putD s.t d undefA })
      | none => none) := by
  cases op <;> first | rfl | cases hp

theorem builtinA_plain {T : Tb} {b : Builtin} {at_ : List TypeId} {args : List Operand} {ao : AOp} (ho : builtinA T b at_ args = some ao) : ao.plain = true ∨ ao = .recover := by
  unfold builtinA at ho
  dsimp only at ho
  repeat' split at ho
  all_goals first
    | (cases ho; done)
    | (cases ho; exact .inl rfl)
    | (cases ho; exact .inr rfl)
    | (simp only [Option.map_eq_some_iff] at ho; obtain ⟨_, _, rfl⟩ := ho; exact .inl rfl)

theorem opA_plain {T : Tb} {op : Op} {ao : AOp} (ho : opA T op = some ao) (h1 : ∀ c, op ≠ .call c) (h2 : ∀ c, op ≠ .defer c) (h3 : ∀ x, op ≠ .panic x) : ao.plain = true := by
  cases op <;> simp only [opA] at ho
  case call c => exact absurd rfl (h1 c)
  case defer c => exact absurd rfl (h2 c)
  case panic x => exact absurd rfl (h3 x)
  all_goals repeat' split at ho
  all_goals first
    | (cases ho; done)
    | (cases ho; rfl)
    | (simp only [Option.map_eq_some_iff] at ho; obtain ⟨_, _, rfl⟩ := ho; rfl)
    | (simp only [Option.bind_eq_some_iff, Option.map_eq_some_iff] at ho; obtain ⟨_, _, _, _, rfl⟩ := ho; rfl)
    | contradiction

theorem run_callv {f : Operand} {c : Call} {ty : TypeId} {g : FuncId} {first cap : List Value} (hc : c.callee = .value f) (hf : a.eval f = .func (.func g) first.toArray cap.toArray) :
    (do let d ← resolve a.eval c ty; invoke d.target d.args : Sem Next) = callFunc g (first ++ c.args.toList.map a.eval ++ cap).toArray := by
  unfold resolve
  rw [hc]
  simp only [hf, Deferred.ofValue]
  have : (first.toArray ++ c.args.map a.eval ++ cap.toArray : Array Value) = (first ++ c.args.toList.map a.eval ++ cap).toArray := by
    apply Array.ext'; simp
  show invoke (.fn (.func g) cap.toArray) (first.toArray ++ c.args.map a.eval) = _
  simp only [invoke]
  rw [this]

theorem run_yieldv {f : Operand} {c : Call} {ty : TypeId} {B : Nat} (hc : c.callee = .value f) (hf : a.eval f = .func (.yield B) #[] #[]) :
    (do let d ← resolve a.eval c ty; invoke d.target d.args : Sem Next) = Instr.yield B (c.args.toList.map a.eval).toArray := by
  unfold resolve
  rw [hc]
  simp only [hf, Deferred.ofValue]
  have : (#[] ++ c.args.map a.eval : Array Value) = (c.args.toList.map a.eval).toArray := by apply Array.ext'; simp
  show invoke (.fn (.yield B) #[]) (#[] ++ c.args.map a.eval) = _
  simp only [invoke]
  rw [this]

theorem evalAll_append (t : Tm) : ∀ (l r : List Opd), evalAll t (l ++ r) = evalAll t l ++ evalAll t r
  | [], r => rfl
  | o :: l, r => by simp only [List.cons_append, evalAll, evalAll_append t l r]

theorem wanted_sim {T : Tb} {nt : Nat} {ops : Array Oper} {o : Oper} {ao : AOper} (hao : operA T nt ops o = some ao) (ht : TR C.st ρ t a.tmps) {b : Bool} (hw : wantedA t ao.guard = some b) :
    Region.wanted o (yielded ops a.tmps) = b := by
  unfold operA at hao
  split at hao <;> try (cases hao; done)
  split at hao <;> try (cases hao; done)
  split at hao
  · rename_i hgd
    cases hao
    simp only [wantedA, Option.some.injEq] at hw
    subst hw
    unfold Region.wanted; rw [hgd]
  · rename_i j want hgd
    split at hao <;> try (cases hao; done)
    rename_i d _ _ _ _ _ hj
    cases hao
    unfold Region.wanted; rw [hgd]
    simp only [wantedA] at hw
    have hv := ht d
    simp only [yielded, hj, Option.bind_some]
    rw [Array.getD_eq_getD_getElem?] at hv
    split at hw <;> try (cases hw; done)
    · rename_i c hc
      cases hw
      rw [hc] at hv; simp only [VR] at hv
      cases hx : a.tmps[d]? with
      | none => rw [hx] at hv; simp [undef] at hv
      | some y => rw [hx] at hv; simp only [Option.getD_some] at hv; subst hv; simp only; cases c <;> cases want <;> rfl
    · rename_i hc
      cases hw
      rw [hc] at hv; simp only [VR, VRs] at hv
      obtain ⟨_, hv, rfl⟩ := hv
      cases hx : a.tmps[d]? with
      | none => simp
      | some y => rw [hx] at hv; simp only [Option.getD_some] at hv; subst hv; simp

/-- the fence of a frame: of a function, or of a round -/
def wideAt (ro : Option Nat) : Fence := { Fence.wide with round := ro }

theorem evOper_sim {rc : Rec} {nt : Nat} {ro : Option Nat} (hg : C.globOK) (hrc : RecOK C rc) {ops : Array Oper} {i : Nat} {o : Oper} (ho : ops[i]? = some o) {ao : AOper} (hao : operA C.T nt ops o = some ao)
    (hro : ro = none ∨ ∀ f l, ao.op ≠ .deferv f l) {s s' : St} {x : AX} (hev : evOper rc ao s = some (x, s')) (hs : StR C nt ρ s a w) {K : Act → World → Prop} {Q : Exit → Act → World → Prop}
    (hn : ∀ ρ' a' w', x = .nrm → Post C ρ s.h w ρ' s'.h w' → StR C nt ρ' s' a' w' → K a' w')
    (hp : ∀ ρ' a' w' v y, x = .pan v → Post C ρ s.h w ρ' s'.h w' → StR C nt ρ' s' a' w' → VR C.st ρ' v y → Q (.panic [{ v := y, recovered := false }]) a' w') :
    wpOpIn (wideAt ro) 0 C.T.P ops Q i K a w := by
  unfold wpOpIn
  simp only [ho]
  have habout : ∀ f, o.about C.T.P w a.eval = some f → (wideAt ro).fn f := fun _ _ => trivial
  have hdst : ao.dst = o.dst ∧ (∀ j, o.dst = some j → j < nt) ∧ opA C.T o.op = some ao.op := by
    unfold operA at hao
    split at hao <;> try (cases hao; done)
    rename_i op hop
    split at hao <;> try (cases hao; done)
    rename_i hd
    have hd' : ∀ j, o.dst = some j → j < nt := fun j hj => by rw [hj] at hd; simpa using hd
    split at hao
    · cases hao; exact ⟨rfl, hd', hop⟩
    · split at hao <;> try (cases hao; done)
      cases hao; exact ⟨rfl, hd', hop⟩
  obtain ⟨hd1, hd2, hop⟩ := hdst
  obtain ⟨dst, gd, op⟩ := ao
  simp only at hd1 hop hro
  subst hd1
  -- whether it is wanted
  have hwx : ∃ b, wantedA s.t gd = some b := by
    unfold evOper at hev
    simp only at hev
    cases hw : wantedA s.t gd with
    | none => rw [hw] at hev; cases hev
    | some b => exact ⟨b, rfl⟩
  obtain ⟨b, hb⟩ := hwx
  have hwant := wanted_sim hao hs.tmps hb
  rw [hwant]
  cases b with
  | false =>
    simp only [Bool.false_eq_true, if_false]
    refine ⟨habout, ?_⟩
    unfold evOper at hev
    simp only [hb] at hev
    cases hev
    exact hn ρ _ w rfl (Post.refl hs.rel) (hs.put (Post.refl hs.rel) hd2 VR_undef)
  | true =>
    simp only [if_true]
    refine ⟨habout, ?_⟩
    by_cases hpl : op.plain = true
    · rw [evOper_plain hpl, hb] at hev
      simp only at hev
      split at hev <;> try (cases hev; done)
      rename_i v h' hv
      cases hev
      have hsem : Oper.semAt (wideAt ro).round a.eval o = execOp a.eval o := Oper.semAt_eq _ _ _ (fun c hc => by
        rw [hc] at hop
        simp only [opA] at hop
        split at hop <;> try (cases hop; done)
        split at hop <;> try (cases hop; done)
        cases hop; cases hpl)
      rw [hsem]
      obtain ⟨ρ', y, w', h1, h2, h3⟩ := op_sim hg hs.rel hs.tmps hop hv
      rcases h1 with h1 | ⟨h1, rfl⟩
      · rw [h1, Oper.uponIn_value]
        exact hn ρ' _ w' rfl h3 (hs.put h3 hd2 h2)
      · rw [h1, Oper.uponIn_skip]
        exact hn ρ' _ w' rfl h3 (hs.put h3 hd2 h2)
    · -- calls, deferred calls, panics
      cases hoo : o.op with
      | call c =>
        rw [hoo] at hop
        simp only [opA] at hop
        split at hop
        · rcases builtinA_plain hop with hc | rfl
          · exact absurd hc hpl
          · unfold evOper at hev; simp only [hb] at hev; cases hev
        · rename_i f hcal
          split at hop <;> try (cases hop; done)
          rename_i df dl hf hl
          cases hop
          unfold evOper at hev
          simp only [hb] at hev
          have hfv := opd_sim hg hs.tmps hf
          have hlv := opds_sim hg hs.tmps hl
          have hsem : Oper.semAt (wideAt ro).round a.eval o = (do let d ← resolve a.eval c o.type; invoke d.target d.args) := by
            rw [Oper.semAt_eq _ _ _ (fun c' hc' => by rw [hoo] at hc'; cases hc')]
            unfold execOp; rw [hoo]
          rw [hsem]
          split at hev <;> try (cases hev; done)
          rename_i who l hcl
          -- who is called
          cases hdf : df.ev s.t with
          | func g first cap =>
            rw [hdf] at hfv hcl
            simp only [calleeA, Option.some.injEq, Prod.mk.injEq] at hcl
            obtain ⟨rfl, rfl⟩ := hcl
            simp only [VR] at hfv
            obtain ⟨xs, ys, e1, e2, e3⟩ := hfv
            rw [run_callv hcal e1]
            have hargs : VRs C.st ρ (first ++ evalAll s.t dl ++ cap) (xs ++ c.args.toList.map a.eval ++ ys) := (e2.append hlv).append e3
            split at hev <;> try (cases hev; done)
            · rename_i v h' hr
              cases hev
              rcases hrc _ _ _ _ _ _ _ _ hr hs.rel hargs trivial with ⟨y, w', k1, ⟨ρ', k2, k3⟩, _⟩ | ⟨k1, k2⟩
              · rw [k1, Oper.uponIn_value]
                exact hn ρ' _ w' rfl k2 (hs.put k2 hd2 k3)
              · rw [k1, Oper.uponIn_enter]
                refine ⟨(fun e => by cases e), CallsIn.mono (show CallsIn (wideAt ro) 0 C.T.P g _ w _ from k2) fun e w' he => ?_⟩
                obtain ⟨ρ', k3, k4⟩ := he
                cases e with
                | returned y => exact hn ρ' _ w' rfl k3 (hs.put k3 hd2 k4)
                | panicked ch => exact k4.elim
                | outgrown => exact k4.elim
            · rename_i v h' hr
              cases hev
              rcases hrc _ _ _ _ _ _ _ _ hr hs.rel hargs trivial with ⟨y, w', k1, ⟨ρ', k2, k3⟩, _⟩ | ⟨k1, k2⟩
              · exact k3.elim
              · rw [k1, Oper.uponIn_enter]
                refine ⟨(fun e => by cases e), CallsIn.mono (show CallsIn (wideAt ro) 0 C.T.P g _ w _ from k2) fun e w' he => ?_⟩
                obtain ⟨ρ', k3, k4⟩ := he
                cases e with
                | returned y => exact k4.elim
                | panicked ch => obtain ⟨y, rfl, k5⟩ := k4; exact hp ρ' _ w' v y rfl k3 (hs.post k3) k5
                | outgrown => exact k4.elim
          | yield b =>
            rw [hdf] at hfv hcl
            simp only [calleeA, Option.some.injEq, Prod.mk.injEq] at hcl
            obtain ⟨rfl, rfl⟩ := hcl
            simp only [VR] at hfv
            obtain ⟨B, m, e1, e2⟩ := hfv
            rw [run_yieldv hcal e2]
            split at hev <;> try (cases hev; done)
            · rename_i v h' hr
              cases hev
              obtain ⟨B', m', g, tmps, assign, body, k0, k1, k2⟩ := hrc _ _ _ _ _ _ _ _ hr hs.rel hlv ⟨_, e1⟩
              rw [e1] at k0; cases k0
              rw [k1, Oper.uponIn_round]
              refine ⟨(fun e => by cases e), RoundIn.mono (show RoundIn (wideAt ro) 0 C.T.P B g tmps assign body w _ from k2) fun e w' he => ?_⟩
              obtain ⟨ρ', k3, k4⟩ := he
              cases e with
              | returned y => exact hn ρ' _ w' rfl k3 (hs.put k3 hd2 k4)
              | panicked ch => exact k4.elim
              | outgrown => exact k4.elim
            · rename_i v h' hr
              cases hev
              obtain ⟨B', m', g, tmps, assign, body, k0, k1, k2⟩ := hrc _ _ _ _ _ _ _ _ hr hs.rel hlv ⟨_, e1⟩
              rw [e1] at k0; cases k0
              rw [k1, Oper.uponIn_round]
              refine ⟨(fun e => by cases e), RoundIn.mono (show RoundIn (wideAt ro) 0 C.T.P B g tmps assign body w _ from k2) fun e w' he => ?_⟩
              obtain ⟨ρ', k3, k4⟩ := he
              cases e with
              | returned y => exact k4.elim
              | panicked ch => obtain ⟨y, rfl, k5⟩ := k4; exact hp ρ' _ w' v y rfl k3 (hs.post k3) k5
              | outgrown => exact k4.elim
          | _ => rw [hdf] at hcl; simp [calleeA] at hcl
        · cases hop
      | defer c =>
        rw [hoo] at hop
        simp only [opA] at hop
        split at hop <;> try (cases hop; done)
        rename_i f hcal
        split at hop <;> try (cases hop; done)
        rename_i df dl hf hl
        cases hop
        rcases hro with rfl | hro
        · unfold evOper at hev
          simp only [hb] at hev
          have hfv := opd_sim hg hs.tmps hf
          have hlv := opds_sim hg hs.tmps hl
          split at hev <;> try (cases hev; done)
          rename_i g l hcl
          cases hev
          cases hdf : df.ev s.t with
          | func g' first cap =>
            rw [hdf] at hfv hcl
            simp only [calleeA, Option.some.injEq, Prod.mk.injEq, Who.fn.injEq] at hcl
            obtain ⟨rfl, rfl⟩ := hcl
            simp only [VR] at hfv
            obtain ⟨xs, ys, e1, e2, e3⟩ := hfv
            have hsem : ((Oper.semAt (wideAt none).round a.eval o).run C.T.P w) = .ok (.defer { target := .fn (.func g') ys.toArray, args := xs.toArray ++ c.args.map a.eval }) w := by
              show (Oper.semAt none a.eval o).run C.T.P w = _
              rw [Oper.semAt_none]
              unfold execOp; rw [hoo]
              unfold resolve
              simp only [hcal, e1, Deferred.ofValue, Sem.run_bind, Sem.run_pure, Result.andThen_ok]
            rw [hsem, Oper.uponIn_defer]
            have hargs : VRs C.st ρ (first ++ evalAll s.t dl ++ cap) (xs.toArray ++ c.args.map a.eval ++ ys.toArray : Array Value).toList := by
              have := (e2.append hlv).append e3
              simpa using this
            have hs2 : StR C nt ρ { s with d := .call g' (first ++ evalAll s.t dl ++ cap) :: s.d } { a with defers := { target := .fn (.func g') ys.toArray, args := xs.toArray ++ c.args.map a.eval } :: a.defers } w :=
              ⟨hs.rel, hs.tmps, hs.room, ⟨_, _, _, rfl, hargs, hs.defers⟩⟩
            exact hn ρ _ w rfl (Post.refl hs.rel) (hs2.put (Post.refl hs.rel) hd2 VR_undef)
          | yield b => rw [hdf] at hcl; simp [calleeA] at hcl
          | _ => rw [hdf] at hcl; simp [calleeA] at hcl
        · exact absurd rfl (hro _ _)
      | panic y =>
        rw [hoo] at hop
        simp only [opA, Option.map_eq_some_iff] at hop
        obtain ⟨d, hd, rfl⟩ := hop
        unfold evOper at hev
        simp only [hb] at hev
        split at hev <;> try (cases hev; done)
        rename_i ty v hv
        cases hev
        have hyv := opd_sim hg hs.tmps hd
        rw [hv] at hyv
        have hyv' := hyv
        simp only [VR] at hyv'
        obtain ⟨z, hz, _⟩ := hyv'
        have hsem : ((Oper.semAt (wideAt ro).round a.eval o).run C.T.P w) = .halt (.panic (a.eval y)) w := by
          rw [Oper.semAt_eq _ _ _ (fun c' hc' => by rw [hoo] at hc'; cases hc')]
          unfold execOp; rw [hoo]
          simp only [hz, Instr.panic, Sem.run_bind]
          rfl
        rw [hsem, Oper.uponIn_panic]
        exact hp ρ _ w _ _ rfl (Post.refl hs.rel) hs hyv
      | _ => exact absurd (opA_plain hop (fun c e => by rw [hoo] at e; cases e) (fun c e => by rw [hoo] at e; cases e) (fun c e => by rw [hoo] at e; cases e)) hpl
end
end Go.AM

/- A REGION WHOSE ORDER IS ITS TEXT's. -/
namespace Go.AM
section
variable {C : Cx} {ρ ρ' : Pl} {h h' : Heap} {w w' : World} {t : Tm} {a : Act}

/-- how an abstract run of code ends, and how the model's does -/
def ExitR (C : Cx) (ρ : Pl) : AX → Exit → Prop
  | .nrm, .normal => True
  | .exit i, .exit j => i = j
  | .ret, .ret => True
  | .pan v, .panic ch => ∃ x, ch = [{ v := x, recovered := false }] ∧ VR C.st ρ v x
  | _, _ => False

/-- what an abstract run says of the model's -/
def EndS (C : Cx) (nt : Nat) (ρ : Pl) (h : Heap) (w : World) (x : AX) (s' : St) (e : Exit) (a' : Act) (w' : World) : Prop :=
  ∃ ρ', ExitR C ρ' x e ∧ Post C ρ h w ρ' s'.h w' ∧ StR C nt ρ' s' a' w'

theorem opersA_get {T : Tb} {nt : Nat} {ops : Array Oper} : ∀ {l : List Oper} {os : List AOper}, opersA T nt ops l = some os → os.length = l.length ∧ ∀ (i : Nat) (o : Oper), l[i]? = some o → ∃ ao, os[i]? = some ao ∧ operA T nt ops o = some ao
  | [], os, h => by simp [opersA] at h; subst h; exact ⟨rfl, fun i o hi => by simp at hi⟩
  | o :: l, os, h => by
    simp only [opersA] at h
    split at h <;> try (cases h; done)
    rename_i ao r ho hr
    cases h
    obtain ⟨h1, h2⟩ := opersA_get hr
    refine ⟨by simp [h1], fun i o' hi => ?_⟩
    cases i with
    | zero => simp at hi; subst hi; exact ⟨ao, rfl, ho⟩
    | succ i => obtain ⟨b, hb, hb2⟩ := h2 i o' (by simpa using hi); exact ⟨b, by simpa using hb, hb2⟩

theorem evOpers_sim {rc : Rec} {nt : Nat} {ro : Option Nat} (hg : C.globOK) (hrc : RecOK C rc) {ops : Array Oper} {os : List AOper} (hos : opersA C.T nt ops ops.toList = some os)
    (hro : ro = none ∨ ∀ o ∈ os, o.op.isDefer = false) {Q : Exit → Act → World → Prop} {x : AX} {s' : St} : ∀ (k i : Nat) {s : St} {a : Act} {w : World} {ρ : Pl}, i + k = os.length → evOpers rc (os.drop i) s = some (x, s') → StR C nt ρ s a w →
    (∀ e a' w', EndS C nt ρ s.h w x s' e a' w' → Q e a' w') → wpOpsIn (wideAt ro) 0 C.T.P ops Q (List.range' i k) a w
  | 0, i, s, a, w, ρ, hi, hev, hs, hq => by
    rw [List.drop_eq_nil_of_le (by omega)] at hev
    simp only [evOpers] at hev
    cases hev
    exact hq _ _ _ ⟨ρ, trivial, Post.refl hs.rel, hs⟩
  | k + 1, i, s, a, w, ρ, hi, hev, hs, hq => by
    obtain ⟨hl, hget⟩ := opersA_get hos
    have hlt : i < os.length := by omega
    obtain ⟨o, ho⟩ : ∃ o, ops.toList[i]? = some o := ⟨_, List.getElem?_eq_getElem (by omega)⟩
    obtain ⟨ao, hao, hoa⟩ := hget i o ho
    have hdrop : os.drop i = ao :: os.drop (i + 1) := by
      rw [List.drop_eq_getElem_cons hlt]
      rw [List.getElem?_eq_getElem hlt] at hao
      cases hao; rfl
    rw [hdrop] at hev
    simp only [evOpers] at hev
    rw [List.range'_succ, wpOpsIn_cons]
    have hro' : ro = none ∨ ∀ f l, ao.op ≠ .deferv f l := by
      rcases hro with h | h
      · exact .inl h
      · exact .inr fun f l e => by have := h ao (List.mem_of_getElem? hao); rw [e] at this; cases this
    cases hone : evOper rc ao s with
    | none => rw [hone] at hev; cases hev
    | some r =>
      obtain ⟨x1, s1⟩ := r
      rw [hone] at hev
      refine evOper_sim hg hrc (by simpa using ho) hoa hro' hone hs (fun ρ' a' w' hx hp hs' => ?_) (fun ρ' a' w' v y hx hp hs' hv => ?_)
      · subst hx
        exact evOpers_sim hg hrc hos hro k (i + 1) (by omega) hev hs' (fun e a2 w2 ⟨ρ2, q1, q2, q3⟩ => hq _ _ _ ⟨ρ2, q1, hp.trans q2, q3⟩)
      · subst hx
        cases hev
        exact hq _ _ _ ⟨ρ', ⟨y, rfl, hv⟩, hp, hs'⟩

theorem region_sim {rc : Rec} {nt id : Nat} {ro : Option Nat} (hg : C.globOK) (hrc : RecOK C rc) {ops : Array Oper} {os : List AOper} (hos : opersA C.T nt ops ops.toList = some os)
    (hro : ro = none ∨ ∀ o ∈ os, o.op.isDefer = false) {x : AX} {s s' : St} (hev : evOpers rc os s = some (x, s')) (hs : StR C nt ρ s a w) :
    (Code.region id ops false).wpIn (wideAt ro) 0 C.T.P (EndS C nt ρ s.h w x s') a w := by
  refine wpIn_region ?_
  have hl := (opersA_get hos).1
  have := evOpers_sim (Q := EndS C nt ρ s.h w x s') hg hrc hos hro os.length 0 (by omega) (by simpa using hev) hs (fun _ _ _ h => h)
  rw [List.range_eq_range', show ops.size = os.length by rw [hl]; simp]
  exact this
end
end Go.AM

/- A REGION WHOSE ORDER IS DRAWN: what the check of it says. -/
namespace Go.AM

theorem mkItems_get {os : List AOper} {bef : Nat → Nat} : ∀ {l : List Nat} {m : Nat} {L : List DI}, mkItems os bef m l = some L →
    (∀ (p : Nat) (d : DI), L[p]? = some d → os[d.i]? = some d.a ∧ d.b = bef d.i ∧ ∀ k, d.m.testBit k = true ↔ (m.testBit k = true ∨ ∃ (q : Nat) (e : DI), q < p ∧ L[q]? = some e ∧ e.i = k))
  | [], m, L, h => by
    simp only [mkItems, Option.some.injEq] at h; subst h
    intro p d hp; simp at hp
  | i :: rest, m, L, h => by
    simp only [mkItems] at h
    split at h <;> try (cases h; done)
    rename_i a ha
    split at h <;> try (cases h; done)
    rename_i l hl
    cases h
    have ih := mkItems_get hl
    intro p d hp
    cases p with
    | zero =>
      simp only [List.getElem?_cons_zero, Option.some.injEq] at hp
      subst hp
      exact ⟨ha, rfl, fun k => ⟨.inl, fun h => h.elim id fun ⟨q, _, hq, _⟩ => absurd hq (by omega)⟩⟩
    | succ p =>
      simp only [List.getElem?_cons_succ] at hp
      obtain ⟨h1, h2, h3⟩ := ih p d hp
      refine ⟨h1, h2, fun k => ?_⟩
      rw [h3 k]
      simp only [Nat.testBit_or, Nat.testBit_two_pow, Bool.or_eq_true, decide_eq_true_eq]
      constructor
      · rintro ((h | h) | ⟨q, e, hq, he, hk⟩)
        · exact .inl h
        · exact .inr ⟨0, _, by omega, rfl, h⟩
        · exact .inr ⟨q + 1, e, by omega, by simpa using he, hk⟩
      · rintro (h | ⟨q, e, hq, he, hk⟩)
        · exact .inl (.inl h)
        · cases q with
          | zero => simp only [List.getElem?_cons_zero, Option.some.injEq] at he; subst he; exact .inl (.inr hk)
          | succ q => exact .inr ⟨q, e, by omega, by simpa using he, hk⟩

theorem maskOf_testBit {f : Nat → Nat} {j : Nat} : ∀ {l : List Nat}, (maskOf f l).testBit j = true ↔ ∃ k ∈ l, (f k).testBit j = true
  | [] => by simp [maskOf]
  | k :: l => by simp only [maskOf, Nat.testBit_or, Bool.or_eq_true, maskOf_testBit (l := l), List.mem_cons, exists_eq_or_imp]

/-- what is known of a drawn region -/
structure Drawn (T : Tb) (nt : Nat) (ops : Array Oper) (L : List DI) : Prop where
  len : L.length = ops.size
  oper : ∀ (p : Nat) (d : DI), L[p]? = some d → ∃ o, ops[d.i]? = some o ∧ operA T nt ops o = some d.a ∧ d.b = befA ops d.i ∧
    (∀ e ∈ o.after.toList, Region.binds .any e = true → ∃ (q : Nat) (c : DI), q < p ∧ L[q]? = some c ∧ c.i = e.on) ∧
    (∀ k, d.b.testBit k = true → ∃ e ∈ o.after.toList, Region.binds .any e = true ∧ (e.on = k ∨ (befA ops e.on).testBit k = true))
  cover : ∀ i, i < ops.size → ∃ (p : Nat) (d : DI), L[p]? = some d ∧ d.i = i
  uniq : ∀ (p q : Nat) (d e : DI), L[p]? = some d → L[q]? = some e → d.i = e.i → p = q
  ahead : ∀ (p q : Nat) (d e : DI), L[p]? = some d → L[q]? = some e → e.b.testBit d.i = true → p < q
  xord : ∀ (p q : Nat) (d e : DI), L[p]? = some d → L[q]? = some e → d.a.op.isX = true → e.a.op.isX = true → p < q → e.b.testBit d.i = true
  early : ∀ (p q : Nat) (d e : DI), L[p]? = some d → L[q]? = some e → d.a.op.isX = true → e.a.op.isX = false → p < q → ∃ k, e.b.testBit k = true ∧ ∀ (r : Nat) (c : DI), r < p → L[r]? = some c → c.i ≠ k
  tmps : ∀ (p q : Nat) (d e : DI), L[p]? = some d → L[q]? = some e → p ≠ q → touches d.a e.a = true → d.b.testBit e.i = true ∨ e.b.testBit d.i = true
  reads : ∀ (p q : Nat) (d e : DI), L[p]? = some d → L[q]? = some e → d.a.op.isX = true → e.a.op.isL = true → q < p → d.b.testBit e.i = false →
    e.a ∈ reOf (L.take p) d ∧ (∀ t, e.a.dst = some t → readsT e.a t = false) ∧ ∀ (r : Nat) (c : DI) (t : Nat), L[r]? = some c → r ≠ q → c.a.dst = some t → e.a.dst ≠ some t ∧ (readsT e.a t = false ∨ e.b.testBit c.i = true)

theorem mem_zipIdx' {α : Type} {L : List α} {p : Nat} {d : α} (h : L[p]? = some d) : (d, p) ∈ L.zipIdx := by
  rw [List.mem_zipIdx_iff_getElem?]; exact h

theorem drawA_sound {T : Tb} {nt : Nat} {ops : Array Oper} {its : List (AOper × List AOper)} (h : drawA T nt ops = some its) :
    ∃ L, Drawn T nt ops L ∧ its.length = L.length ∧ ∀ (p : Nat) (d : DI), L[p]? = some d → its[p]? = some (d.a, reOf (L.take p) d) := by
  unfold drawA at h
  split at h
  · cases h
  split at h <;> try (cases h; done)
  rename_i os hos
  split at h <;> try (cases h; done)
  rename_i L hL
  split at h <;> try (cases h; done)
  rename_i hok
  cases h
  have hmk := mkItems_get hL
  obtain ⟨hol, hoget⟩ := opersA_get hos
  simp only [drawOK, Bool.and_eq_true, beq_iff_eq, List.all_eq_true] at hok
  obtain ⟨⟨⟨⟨h1, h2⟩, h3⟩, h4⟩, h5⟩ := hok
  have hm : ∀ (p : Nat) (d : DI), L[p]? = some d → ∀ k, d.m.testBit k = true ↔ ∃ (q : Nat) (e : DI), q < p ∧ L[q]? = some e ∧ e.i = k := fun p d hp k => by
    rw [(hmk p d hp).2.2 k]; simp
  have hpair : ∀ (p q : Nat) (d e : DI), L[p]? = some d → L[q]? = some e → p ≠ q → pairOK d p e q = true := fun p q d e hp hq hne => by
    have := h4 (d, p) (mem_zipIdx' hp)
    simp only [List.all_eq_true] at this
    have := this (e, q) (mem_zipIdx' hq)
    simp only [Bool.or_eq_true] at this
    rcases this with c | c
    · exact absurd (Nat.eq_of_beq_eq_true c) hne
    · exact c
  have hpair' : ∀ (p q : Nat) (d e : DI), L[p]? = some d → L[q]? = some e → p ≠ q → d.i ≠ e.i ∧ (e.b.testBit d.i = true → p < q) ∧ (d.a.op.isX = true → e.a.op.isX = true → p < q → e.b.testBit d.i = true) ∧
      (d.a.op.isX = true → e.a.op.isX = false → p < q → Nat.beq (e.b &&& d.m) e.b = false) ∧ (touches d.a e.a = true → d.b.testBit e.i = true ∨ e.b.testBit d.i = true) := fun p q d e hp hq hne => by
    have := hpair p q d e hp hq hne
    simp only [pairOK, Bool.and_eq_true, Bool.or_eq_true, Bool.not_eq_true'] at this
    obtain ⟨⟨⟨⟨c1, c2⟩, c3⟩, c4⟩, c5⟩ := this
    refine ⟨fun e => by rw [e] at c1; simp at c1, fun hb => ?_, fun x1 x2 hl => ?_, fun x1 x2 hl => ?_, fun ht => ?_⟩
    · rcases c2 with c | c
      · rw [hb] at c; cases c
      · exact Nat.blt_eq.mp c
    · rcases c3 with c | c
      · rw [x1, x2, Nat.blt_eq.mpr hl] at c; cases c
      · exact c
    · rcases c4 with c | c
      · rw [x1, x2, Nat.blt_eq.mpr hl] at c; cases c
      · exact c
    · rcases c5 with (c | c) | c
      · rw [ht] at c; cases c
      · exact .inl c
      · exact .inr c
  refine ⟨L, ⟨h1, ?_, ?_, ?_, ?_, ?_, ?_, ?_, ?_⟩, by simp [drawItems], ?_⟩
  · intro p d hp
    have he := h3 d (List.mem_of_getElem? hp)
    obtain ⟨k1, k2, _⟩ := hmk p d hp
    unfold edgeOK at he
    cases ho : ops[d.i]? with
    | none => rw [ho] at he; cases he
    | some o =>
      rw [ho] at he
      simp only [Bool.and_eq_true, List.all_eq_true] at he
      obtain ⟨⟨_, e1⟩, e2⟩ := he
      obtain ⟨ao, ha1, ha2⟩ := hoget d.i o (by simpa using ho)
      rw [k1] at ha1; cases ha1
      refine ⟨o, rfl, ha2, k2, fun e hem hb => ?_, fun k hk => ?_⟩
      · have := e1 e.on (by simp only [edgesA, List.mem_map, List.mem_filter]; exact ⟨e, ⟨hem, hb⟩, rfl⟩)
        obtain ⟨q, c, g1, g2, g3⟩ := (hm p d hp e.on).1 this
        exact ⟨q, c, g1, g2, g3⟩
      · have e3 := Nat.eq_of_beq_eq_true e2
        rw [← e3, Nat.testBit_and, Bool.and_eq_true, Nat.testBit_or, Bool.or_eq_true, maskOf_testBit, maskOf_testBit] at hk
        obtain ⟨_, ⟨j, hj, hjk⟩ | ⟨j, hj, hjk⟩⟩ := hk
        · simp only [edgesA, List.mem_map, List.mem_filter] at hj
          obtain ⟨e, ⟨g1, g2⟩, rfl⟩ := hj
          rw [Nat.testBit_two_pow] at hjk
          exact ⟨e, g1, g2, .inl (by simpa using hjk)⟩
        · simp only [edgesA, List.mem_map, List.mem_filter] at hj
          obtain ⟨e, ⟨g1, g2⟩, rfl⟩ := hj
          exact ⟨e, g1, g2, .inr hjk⟩
  · intro i hi
    have := h2 i (List.mem_range.2 hi)
    simp only [List.any_eq_true] at this
    obtain ⟨d, hd, he⟩ := this
    obtain ⟨p, hp⟩ := List.mem_iff_getElem?.1 hd
    exact ⟨p, d, hp, Nat.eq_of_beq_eq_true he⟩
  · intro p q d e hp hq hi
    exact Decidable.byContradiction fun hne => (hpair' p q d e hp hq hne).1 hi
  · intro p q d e hp hq hb
    by_cases hne : p = q
    · subst hne
      rw [hp] at hq; cases hq
      -- an operation is not ahead of itself
      have he := h3 d (List.mem_of_getElem? hp)
      unfold edgeOK at he
      split at he
      · cases he
      · rw [hb] at he; simp at he
    · exact (hpair' p q d e hp hq hne).2.1 hb
  · intro p q d e hp hq x1 x2 hl
    exact (hpair' p q d e hp hq (by omega)).2.2.1 x1 x2 hl
  · intro p q d e hp hq x1 x2 hl
    have hb := (hpair' p q d e hp hq (by omega)).2.2.2.1 x1 x2 hl
    refine Classical.byContradiction fun hno => ?_
    have : e.b &&& d.m = e.b := by
      apply Nat.eq_of_testBit_eq
      intro k
      rw [Nat.testBit_and]
      cases hk : e.b.testBit k with
      | false => rfl
      | true =>
        rw [Bool.true_and]
        refine Classical.byContradiction fun hmk => hno ⟨k, hk, fun r c hr hc hck => hmk ?_⟩
        exact (hm p d hp k).2 ⟨r, c, hr, hc, hck⟩
    rw [this] at hb
    simp at hb
  · intro p q d e hp hq hne ht
    exact (hpair' p q d e hp hq hne).2.2.2.2 ht
  · intro p q d e hp hq x1 l1 hl hb
    refine ⟨?_, ?_⟩
    · unfold reOf
      rw [x1]
      simp only [cond_true, List.mem_map, List.mem_filter]
      exact ⟨e, ⟨List.mem_of_getElem? (by rw [List.getElem?_take_of_lt hl]; exact hq), by simp [l1, hb]⟩, rfl⟩
    · have := h5 (e, q) (mem_zipIdx' hq)
      simp only [Bool.or_eq_true, Bool.not_eq_true'] at this
      rcases this with c | c
      · exfalso
        have : isRe L.zipIdx e q = true := by
          unfold isRe
          rw [l1, Bool.true_and, List.any_eq_true]
          exact ⟨(d, p), mem_zipIdx' hp, by show (d.a.op.isX && Nat.blt q p && !d.b.testBit e.i) = true; rw [x1, hb, Nat.blt_eq.mpr hl]; rfl⟩
        rw [this] at c; cases c
      · simp only [loadOK, Bool.and_eq_true, List.all_eq_true] at c
        obtain ⟨c0, c⟩ := c
        refine ⟨fun t ht => by rw [ht] at c0; simpa using c0, ?_⟩
        intro r g t hr hne hdst
        have := c (g, r) (mem_zipIdx' hr)
        simp only [hdst, Bool.or_eq_true, Bool.and_eq_true, Bool.not_eq_true'] at this
        rcases this with c | ⟨c1, c2⟩
        · exact absurd (Nat.eq_of_beq_eq_true c) hne
        · exact ⟨fun e => by rw [e] at c1; simp at c1, c2⟩
  · intro p d hp
    simp only [drawItems, List.getElem?_map, List.getElem?_zipIdx, hp, Option.map_some, Nat.zero_add]
end Go.AM

/- A REGION WHOSE ORDER IS DRAWN: the canonical run, and what is common to all orders. -/
namespace Go.AM

theorem evOper_put {rc : Rec} {o : AOper} {s s1 : St} (h : evOper rc o s = some (.nrm, s1)) : ∃ v, s1.t = putD s.t o.dst v := by
  unfold evOper at h
  repeat' split at h
  all_goals first
    | (cases h; done)
    | (cases h; exact ⟨_, rfl⟩)

theorem evOper_exit {rc : Rec} {o : AOper} {s s1 : St} {x : AX} (h : evOper rc o s = some (x, s1)) : x = .nrm ∨ ∃ v, x = .pan v ∧ s1.t = s.t := by
  unfold evOper at h
  repeat' split at h
  all_goals first
    | (cases h; done)
    | (cases h; exact .inl rfl)
    | (cases h; exact .inr ⟨_, rfl, rfl⟩)

theorem isX_plain {o : AOp} (h : o.isX = false) : o.plain = true := by
  cases o <;> first | rfl | (simp [AOp.isX, AOp.cl] at h)

/-- an operation that is no X, in the abstract -/
theorem evOper_quiet {rc : Rec} {o : AOper} {s s1 : St} {x : AX} (hx : o.op.isX = false) (h : evOper rc o s = some (x, s1)) :
    x = .nrm ∧ s1.d = s.d ∧ ((wantedA s.t o.guard = some false ∧ s1.h = s.h ∧ s1.t = putD s.t o.dst undefA) ∨ (wantedA s.t o.guard = some true ∧ ∃ v, evOp o.op s.t s.h = some (v, s1.h) ∧ s1.t = putD s.t o.dst v)) := by
  obtain ⟨d, g, op⟩ := o
  rw [evOper_plain (isX_plain hx)] at h
  simp only at h ⊢
  split at h
  · rename_i hw
    split at h <;> try (cases h; done)
    rename_i v h' hv
    cases h
    exact ⟨rfl, rfl, .inr ⟨hw, v, hv, rfl⟩⟩
  · rename_i hw
    cases h
    exact ⟨rfl, rfl, .inl ⟨hw, rfl, rfl⟩⟩
  · cases h

theorem evDraw_trace {rc : Rec} : ∀ {its : List (AOper × List AOper)} {s s' : St} {x : AX}, evDraw rc its s = some (x, s') →
    ∃ (S : Nat → St) (q : Nat), S 0 = s ∧ q ≤ its.length ∧
      (∀ p, p < q → ∃ o rs, its[p]? = some (o, rs) ∧ evOper rc o (S p) = some (.nrm, S (p + 1)) ∧ 0 ≤ (S (p + 1)).h.next ∧ checks (S (p + 1)) rs = true) ∧
      ((x = .nrm ∧ q = its.length ∧ s' = S q) ∨ (q < its.length ∧ x ≠ .nrm ∧ ∃ o rs, its[q]? = some (o, rs) ∧ evOper rc o (S q) = some (x, s')))
  | [], s, s', x, h => by
    simp only [evDraw, Option.some.injEq, Prod.mk.injEq] at h
    obtain ⟨rfl, rfl⟩ := h
    exact ⟨fun _ => s, 0, rfl, Nat.le_refl _, fun p hp => absurd hp (by omega), .inl ⟨rfl, rfl, rfl⟩⟩
  | (o, rs) :: its, s, s', x, h => by
    simp only [evDraw] at h
    split at h
    · rename_i s1 h1
      cases hc : checks s1 rs with
      | false => rw [hc] at h; cases h
      | true =>
        rw [hc] at h
        simp only [cond_true] at h
        obtain ⟨S, q, g1, g2, g3, g4⟩ := evDraw_trace h
        refine ⟨fun p => match p with | 0 => s | p + 1 => S p, q + 1, rfl, by simp; omega, fun p hp => ?_, ?_⟩
        · cases p with
          | zero => exact ⟨o, rs, rfl, by simpa [g1] using h1, Nat.zero_le _, by simpa [g1] using hc⟩
          | succ p => obtain ⟨o', rs', k1, k2, k3, k4⟩ := g3 p (by omega); exact ⟨o', rs', by simpa using k1, k2, k3, k4⟩
        · rcases g4 with ⟨k1, k2, k3⟩ | ⟨k1, k2, o', rs', k3, k4⟩
          · exact .inl ⟨k1, by simp [k2], k3⟩
          · exact .inr ⟨by simp; omega, k2, o', rs', by simpa using k3, k4⟩
    · rename_i r hne
      refine ⟨fun _ => s, 0, rfl, Nat.zero_le _, fun p hp => absurd hp (by omega), .inr ⟨by simp, ?_, o, rs, rfl, h⟩⟩
      intro e
      subst e
      exact hne s' h

/-! What has been put -/
/-- the temporaries behind the operations of D, in the canonical order, up to p -/
def tD (dst : Nat → Option Nat) (V : Nat → AV) (t0 : Tm) (D : Nat → Bool) : Nat → Tm
  | 0 => t0
  | p + 1 => bif D p then putD (tD dst V t0 D p) (dst p) (V p) else tD dst V t0 D p

section
variable {dst : Nat → Option Nat} {V : Nat → AV} {t0 : Tm} {D D' : Nat → Bool}

theorem getT_tD_succ (p i : Nat) : getT (tD dst V t0 D (p + 1)) i = if D p = true ∧ dst p = some i then V p else getT (tD dst V t0 D p) i := by
  simp only [tD]
  cases hD : D p with
  | false => simp
  | true => simp only [cond_true, getT_putD, true_and]

theorem tD_congr {i : Nat} : ∀ {n : Nat}, (∀ r, r < n → dst r = some i → D r = D' r) → getT (tD dst V t0 D n) i = getT (tD dst V t0 D' n) i
  | 0, _ => rfl
  | n + 1, h => by
    rw [getT_tD_succ, getT_tD_succ, tD_congr (n := n) fun r hr hd => h r (by omega) hd]
    by_cases hd : dst n = some i
    · simp only [hd, and_true, h n (by omega) hd]
    · simp only [hd, and_false, if_false]

theorem tD_none {i : Nat} : ∀ {n : Nat}, (∀ r, r < n → dst r = some i → D r = false) → getT (tD dst V t0 D n) i = getT t0 i
  | 0, _ => rfl
  | n + 1, h => by
    rw [getT_tD_succ, tD_none (n := n) fun r hr hd => h r (by omega) hd]
    rw [if_neg]
    rintro ⟨h1, h2⟩
    rw [h n (by omega) h2] at h1; cases h1

theorem tD_last {i p : Nat} (hp : D p = true) (hd : dst p = some i) : ∀ {n : Nat}, p < n → (∀ r, p < r → r < n → dst r = some i → D r = false) → getT (tD dst V t0 D n) i = V p
  | 0, h, _ => absurd h (by omega)
  | n + 1, h, hr => by
    rw [getT_tD_succ]
    by_cases e : p = n
    · subst e; rw [if_pos ⟨hp, hd⟩]
    · rw [if_neg]
      · exact tD_last hp hd (by omega) fun r h1 h2 h3 => hr r h1 (by omega) h3
      · rintro ⟨h1, h2⟩
        rw [hr n (by omega) (by omega) h2] at h1; cases h1

theorem tD_below (p : Nat) : ∀ {n : Nat}, p ≤ n → ∀ i, getT (tD dst V t0 (fun r => decide (r < p)) n) i = getT (tD dst V t0 (fun _ => true) p) i
  | 0, h, i => by
    have : p = 0 := by omega
    subst this; rfl
  | n + 1, h, i => by
    by_cases e : p = n + 1
    · subst e
      exact tD_congr fun r hr _ => by simp [hr]
    · rw [getT_tD_succ, if_neg, tD_below p (n := n) (by omega) i]
      rintro ⟨h1, _⟩
      simp at h1; omega

theorem tD_put {i p n : Nat} (hp : p < n) (hD' : ∀ r, D' r = (D r || decide (r = p))) (hlast : ∀ r, dst r = some i → dst p = some i → D r = true → r < p) :
    getT (tD dst V t0 D' n) i = getT (putD (tD dst V t0 D n) (dst p) (V p)) i := by
  rw [getT_putD]
  by_cases hd : dst p = some i
  · rw [if_pos hd]
    refine tD_last (by rw [hD']; simp) hd hp fun r h1 h2 h3 => ?_
    rw [hD']
    have : D r = false := by
      cases hr : D r with
      | false => rfl
      | true => exact absurd (hlast r h3 hd hr) (by omega)
    rw [this]; simp; omega
  · rw [if_neg hd]
    refine tD_congr fun r hr hdr => ?_
    rw [hD']
    have : r ≠ p := fun e => hd (e ▸ hdr)
    simp [this]
end

/-! What an operation reads -/
theorem reads_opds {o : AOper} {t1 t2 : Tm} (h : ∀ i, readsT o i = true → getT t1 i = getT t2 i) : (∀ x ∈ opds o.op, x.ev t1 = x.ev t2) ∧ wantedA t1 o.guard = wantedA t2 o.guard := by
  refine ⟨fun x hx => ?_, ?_⟩
  · cases x with
    | k v => rfl
    | t i =>
      exact h i (by
        simp only [readsT, Bool.or_eq_true, List.any_eq_true]
        exact .inl ⟨.t i, hx, by simp⟩)
  · cases hg : o.guard with
    | none => rfl
    | some g =>
      obtain ⟨d, b⟩ := g
      simp only [wantedA]
      rw [h d (by simp [readsT, hg])]

theorem evOper_congr {rc : Rec} {o : AOper} {t1 t2 : Tm} {d : List ADef} {h : Heap} {x : AX} {s2 : St} (hr : ∀ i, readsT o i = true → getT t1 i = getT t2 i) (hev : evOper rc o ⟨t2, d, h⟩ = some (x, s2)) :
    ∃ s1, evOper rc o ⟨t1, d, h⟩ = some (x, s1) ∧ s1.h = s2.h ∧ s1.d = s2.d ∧ ((x = .nrm ∧ ∃ v, s2.t = putD t2 o.dst v ∧ s1.t = putD t1 o.dst v) ∨ (x ≠ .nrm ∧ s1.t = t1)) := by
  obtain ⟨ho, hw⟩ := reads_opds hr
  obtain ⟨dst, g, op⟩ := o
  simp only at ho hw
  by_cases hp : op.plain = true
  · rw [evOper_plain hp] at hev ⊢
    simp only [hw, ev_congr ho] at hev ⊢
    split at hev
    · split at hev <;> try (cases hev; done)
      cases hev
      exact ⟨_, rfl, rfl, rfl, .inl ⟨rfl, _, rfl, rfl⟩⟩
    · cases hev
      exact ⟨_, rfl, rfl, rfl, .inl ⟨rfl, _, rfl, rfl⟩⟩
    · cases hev
  · unfold evOper at hev ⊢
    simp only [hw] at hev ⊢
    cases hww : wantedA t2 g with
    | none => rw [hww] at hev; cases hev
    | some b =>
      cases b with
      | false =>
        rw [hww] at hev
        simp only [Option.some.injEq, Prod.mk.injEq] at hev
        obtain ⟨rfl, rfl⟩ := hev
        exact ⟨_, rfl, rfl, rfl, .inl ⟨rfl, _, rfl, rfl⟩⟩
      | true =>
        rw [hww] at hev
        simp only at hev ⊢
        cases op with
        | callv f args =>
          simp only [opds] at ho
          simp only [ho f (List.mem_cons_self ..), evalAll_congr fun y hm => ho y (List.mem_cons_of_mem _ hm)] at hev ⊢
          cases hc : calleeA (f.ev t2) (evalAll t2 args) with
          | none => rw [hc] at hev; cases hev
          | some wl =>
            obtain ⟨who, l⟩ := wl
            rw [hc] at hev
            simp only at hev ⊢
            cases hrc : rc who l h with
            | none => rw [hrc] at hev; cases hev
            | some r =>
              obtain ⟨r, h'⟩ := r
              rw [hrc] at hev
              cases r with
              | ret v =>
                simp only [Option.some.injEq, Prod.mk.injEq] at hev
                obtain ⟨rfl, rfl⟩ := hev
                exact ⟨_, rfl, rfl, rfl, .inl ⟨rfl, _, rfl, rfl⟩⟩
              | pan v =>
                simp only [Option.some.injEq, Prod.mk.injEq] at hev
                obtain ⟨rfl, rfl⟩ := hev
                exact ⟨_, rfl, rfl, rfl, .inr ⟨by simp, rfl⟩⟩
        | deferv f args =>
          simp only [opds] at ho
          simp only [ho f (List.mem_cons_self ..), evalAll_congr fun y hm => ho y (List.mem_cons_of_mem _ hm)] at hev ⊢
          cases hc : calleeA (f.ev t2) (evalAll t2 args) with
          | none => rw [hc] at hev; cases hev
          | some wl =>
            obtain ⟨who, l⟩ := wl
            rw [hc] at hev
            cases who with
            | fn f' =>
              simp only [Option.some.injEq, Prod.mk.injEq] at hev
              obtain ⟨rfl, rfl⟩ := hev
              exact ⟨_, rfl, rfl, rfl, .inl ⟨rfl, _, rfl, rfl⟩⟩
            | round l' => cases hev
        | panic y =>
          simp only [opds] at ho
          simp only [ho y (by simp)] at hev ⊢
          cases hy : y.ev t2 with
          | iface ty v =>
            rw [hy] at hev
            simp only [Option.some.injEq, Prod.mk.injEq] at hev
            obtain ⟨rfl, rfl⟩ := hev
            exact ⟨_, rfl, rfl, rfl, .inr ⟨by simp, rfl⟩⟩
          | _ => rw [hy] at hev; cases hev
        | recover => cases hev
        | _ => exact absurd rfl hp

mutual
theorem sameA_eq : ∀ {a b : AV}, sameA a b = true → a = b
  | a, b, h => by
    cases a <;> cases b <;> simp only [sameA, Bool.and_eq_true, beq_iff_eq, decide_eq_true_eq, reduceCtorEq, Bool.false_eq_true] at h <;>
      first
        | rfl
        | (subst h; rfl)
        | (obtain ⟨rfl, rfl⟩ := h; rfl)
        | skip
    case str s s' => rw [beqB_eq] at h; rw [eq_of_beq h]
    case ptr => rw [Nat.eq_of_beq_eq_true h.1, Nat.eq_of_beq_eq_true h.2]
    case pptr => rw [sameL_eq h.1, Nat.eq_of_beq_eq_true h.2]
    case slice => obtain ⟨⟨⟨⟨h1, h2⟩, h3⟩, h4⟩, h5⟩ := h; rw [Nat.eq_of_beq_eq_true h1, Nat.eq_of_beq_eq_true h2, Nat.eq_of_beq_eq_true h3, h4, Nat.eq_of_beq_eq_true h5]
    case pslice => obtain ⟨⟨⟨h1, h2⟩, h3⟩, h4⟩ := h; rw [sameL_eq h1, Nat.eq_of_beq_eq_true h2, Nat.eq_of_beq_eq_true h3, h4]
    case map => rw [Nat.eq_of_beq_eq_true h]
    case func => obtain ⟨⟨h1, h2⟩, h3⟩ := h; rw [Nat.eq_of_beq_eq_true h1, sameL_eq h2, sameL_eq h3]
    case yield => rw [Nat.eq_of_beq_eq_true h]
    case iface => rw [Nat.eq_of_beq_eq_true h.1, sameA_eq h.2]
    case agg => rw [sameL_eq h]
    case tuple => rw [sameL_eq h]
theorem sameL_eq : ∀ {a b : List AV}, sameL a b = true → a = b
  | [], [], _ => rfl
  | [], _ :: _, h => by simp [sameL] at h
  | _ :: _, [], h => by simp [sameL] at h
  | x :: a, y :: b, h => by
    simp only [sameL, Bool.and_eq_true] at h
    rw [sameA_eq h.1, sameL_eq h.2]
end
end Go.AM

/- A REGION WHOSE ORDER IS DRAWN: the memory along the canonical run. -/
namespace Go.AM

theorem Heap.sub_refl (h : Heap) : h.sub h := fun _ _ x => x
theorem Heap.sub_trans {a b c : Heap} (h1 : a.sub b) (h2 : b.sub c) : a.sub c := fun x o hx => h2 x o (h1 x o hx)
theorem Heap.sub_alloc {h h' : Heap} {ao : AObj} {b : Nat} (ha : h.alloc ao = some (b, h')) : h.sub h' := fun x o hx => by
  obtain ⟨rfl, hn, hlt, hget⟩ := Heap.alloc_eq ha
  obtain ⟨h1, h2⟩ := Heap.find_some.1 hx
  exact Heap.find_of (by omega) (by rw [hget x (by omega), if_neg (by omega)]; exact h2)

def dstL (L : List DI) (p : Nat) : Option Nat := (L[p]?).bind (·.a.dst)
def valL (L : List DI) (S : Nat → St) (p : Nat) : AV := match dstL L p with | some j => getT (S (p + 1)).t j | none => undefA

theorem dstL_some {L : List DI} {p : Nat} {d : DI} (h : L[p]? = some d) : dstL L p = d.a.dst := by simp [dstL, h]

structure Trace (rc : Rec) (L : List DI) (S : Nat → St) (q : Nat) : Prop where
  le : q ≤ L.length
  step : ∀ (p : Nat) (d : DI), p < q → L[p]? = some d → evOper rc d.a (S p) = some (.nrm, S (p + 1)) ∧ 0 ≤ (S (p + 1)).h.next ∧ checks (S (p + 1)) (reOf (L.take p) d) = true
  stop : ∀ (d : DI), L[q]? = some d → d.a.op.isX = true

section
variable {rc : Rec} {L : List DI} {S : Nat → St} {q : Nat}

theorem Trace.put (T : Trace rc L S q) {p : Nat} {d : DI} (hp : p < q) (hd : L[p]? = some d) : (S (p + 1)).t = putD (S p).t d.a.dst (valL L S p) := by
  obtain ⟨v, hv⟩ := evOper_put (T.step p d hp hd).1
  cases hdst : d.a.dst with
  | none => rw [hv, hdst]; rfl
  | some j =>
    have : valL L S p = v := by
      unfold valL
      rw [dstL_some hd, hdst]
      simp only [hv, hdst, getT_putD, if_true]
    rw [this, hv, hdst]

theorem Trace.t (T : Trace rc L S q) : ∀ {p : Nat}, p ≤ q → (S p).t = tD (dstL L) (valL L S) (S 0).t (fun _ => true) p
  | 0, _ => rfl
  | p + 1, hp => by
    have hl := T.le
    obtain ⟨d, hd⟩ : ∃ d, L[p]? = some d := ⟨_, List.getElem?_eq_getElem (by omega)⟩
    rw [T.put (by omega) hd, T.t (p := p) (by omega)]
    simp only [tD, cond_true, dstL_some hd]

/-- an operation that is no X: the deferred calls stay; the memory stays, or has a block more -/
theorem Trace.quiet (T : Trace rc L S q) {p : Nat} {d : DI} (hp : p < q) (hd : L[p]? = some d) (hx : d.a.op.isX = false) :
    (S (p + 1)).d = (S p).d ∧ ((S (p + 1)).h = (S p).h ∨ ∃ ao bp, (S p).h.alloc ao = some (bp, (S (p + 1)).h)) := by
  obtain ⟨_, h1, h2⟩ := evOper_quiet hx (T.step p d hp hd).1
  refine ⟨h1, ?_⟩
  rcases h2 with ⟨_, h2, _⟩ | ⟨_, v, h2, _⟩
  · exact .inl h2
  · cases hc : d.a.op.cl with
    | P => exact .inl (P_form hc h2).1
    | L => exact .inl (L_form hc h2).1
    | A => obtain ⟨ao, b, k, _, g, _⟩ := A_form hc h2; exact .inr ⟨ao, b, g⟩
    | X => simp [AOp.isX, hc] at hx

/-- along operations that are no X -/
theorem Trace.run (T : Trace rc L S q) {c : Nat} : ∀ {c' : Nat}, c ≤ c' → c' ≤ q → (∀ (r : Nat) (d : DI), c ≤ r → r < c' → L[r]? = some d → d.a.op.isX = false) →
    (S c').d = (S c).d ∧ (S c).h.sub (S c').h ∧ (S c).h.next ≤ (S c').h.next
  | 0, h1, _, _ => by have : c = 0 := by omega
                      subst this; exact ⟨rfl, Heap.sub_refl _, Nat.le_refl _⟩
  | c' + 1, h1, h2, hx => by
    by_cases e : c = c' + 1
    · subst e; exact ⟨rfl, Heap.sub_refl _, Nat.le_refl _⟩
    · obtain ⟨g1, g2, g3⟩ := T.run (c' := c') (by omega) (by omega) fun r d hr hr' hd => hx r d hr (by omega) hd
      have hl := T.le
      obtain ⟨d, hd⟩ : ∃ d, L[c']? = some d := ⟨_, List.getElem?_eq_getElem (by omega)⟩
      obtain ⟨k1, k2⟩ := T.quiet (by omega) hd (hx c' d (by omega) (by omega) hd)
      refine ⟨k1.trans g1, ?_, ?_⟩
      · rcases k2 with k2 | ⟨ao, bp, k2⟩
        · rw [k2]; exact g2
        · exact Heap.sub_trans g2 (Heap.sub_alloc k2)
      · rcases k2 with k2 | ⟨ao, bp, k2⟩
        · rw [k2]; exact g3
        · have := (Heap.alloc_eq k2).2.1; omega

theorem Trace.grow (T : Trace rc L S q) {C : Cx} {ρ0 ρ : Pl} {h0 : Heap} {w0 w : World} {c : Nat} (hp : Post C ρ0 h0 w0 ρ (S c).h w) : ∀ {c' : Nat}, c ≤ c' → c' ≤ q →
    (∀ (r : Nat) (d : DI), c ≤ r → r < c' → L[r]? = some d → d.a.op.isX = false) → Post C ρ0 h0 w0 ρ (S c').h w
  | 0, h1, _, _ => by have : c = 0 := by omega
                      subst this; exact hp
  | c' + 1, h1, h2, hx => by
    by_cases e : c = c' + 1
    · subst e; exact hp
    · have g := T.grow hp (c' := c') (by omega) (by omega) fun r d hr hr' hd => hx r d hr (by omega) hd
      have hl := T.le
      obtain ⟨d, hd⟩ : ∃ d, L[c']? = some d := ⟨_, List.getElem?_eq_getElem (by omega)⟩
      rcases (T.quiet (by omega) hd (hx c' d (by omega) (by omega) hd)).2 with k2 | ⟨ao, bp, k2⟩
      · rw [k2]; exact g
      · exact g.grow k2

/-- the next X from c on -/
theorem Trace.next (T : Trace rc L S q) : ∀ (k c : Nat), c ≤ q → q - c = k → ∃ b, c ≤ b ∧ b ≤ q ∧ (b = L.length ∨ ∃ d, L[b]? = some d ∧ d.a.op.isX = true) ∧ ∀ (r : Nat) (d : DI), c ≤ r → r < b → L[r]? = some d → d.a.op.isX = false
  | 0, c, hc, hk => by
    have : c = q := by omega
    subst this
    refine ⟨c, Nat.le_refl _, Nat.le_refl _, ?_, fun r d h1 h2 => absurd h1 (by omega)⟩
    cases hd : L[c]? with
    | none => left; have := List.getElem?_eq_none_iff.1 hd; have := T.le; omega
    | some d => exact .inr ⟨d, rfl, T.stop d hd⟩
  | k + 1, c, hc, hk => by
    have hl := T.le
    obtain ⟨d, hd⟩ : ∃ d, L[c]? = some d := ⟨_, List.getElem?_eq_getElem (by omega)⟩
    cases hx : d.a.op.isX with
    | true => exact ⟨c, Nat.le_refl _, by omega, .inr ⟨d, hd, hx⟩, fun r d h1 h2 => absurd h1 (by omega)⟩
    | false =>
      obtain ⟨b, h1, h2, h3, h4⟩ := T.next k (c + 1) (by omega) (by omega)
      refine ⟨b, by omega, h2, h3, fun r e g1 g2 g3 => ?_⟩
      by_cases er : r = c
      · subst er; rw [hd] at g3; cases g3; exact hx
      · exact h4 r e (by omega) g2 g3
end

/-- the state that all orders share, with D done and b the first X that is not -/
structure DInv (C : Cx) (nt : Nat) (L : List DI) (S : Nat → St) (q : Nat) (ρ0 : Pl) (w0 : World) (D : Nat → Bool) (b : Nat) (ρ : Pl) (a : Act) (w : World) : Prop where
  bq : b ≤ q
  bx : b = L.length ∨ ∃ d, L[b]? = some d ∧ d.a.op.isX = true
  below : ∀ p, D p = true → p < b
  xs : ∀ (p : Nat) (d : DI), p < b → L[p]? = some d → d.a.op.isX = true → D p = true
  closed : ∀ (p : Nat) (d : DI), L[p]? = some d → D p = true → ∀ k, d.b.testBit k = true → ∃ (r : Nat) (c : DI), L[r]? = some c ∧ c.i = k ∧ D r = true
  post : Post C ρ0 (S 0).h w0 ρ (S b).h w
  st : StR C nt ρ ⟨tD (dstL L) (valL L S) (S 0).t D L.length, (S b).d, (S b).h⟩ a w
  mono : ∀ p p', p ≤ p' → p' ≤ b → (S p).h.next ≤ (S p').h.next
  holes : ∀ (p : Nat) (d : DI) (ao : AObj) (bp : Nat), p < b → D p = false → L[p]? = some d → d.a.op.isX = false → (S p).h.alloc ao = some (bp, (S (p + 1)).h) → ρ bp = none ∧ (S b).h.get bp = some ao
  loads : ∀ (p : Nat) (d : DI), p < b → D p = false → L[p]? = some d → d.a.op.isL = true → wantedA (S p).t d.a.guard = some true →
    ∃ v, evOp d.a.op (S p).t (S b).h = some (v, (S b).h) ∧ (S (p + 1)).t = putD (S p).t d.a.dst v

section
variable {rc : Rec} {L : List DI} {S : Nat → St} {q : Nat} {C : Cx} {nt : Nat} {ops : Array Oper} {ρ0 ρ : Pl} {w0 w : World} {D D' : Nat → Bool} {b p : Nat} {a : Act} {d : DI}

/-- what is ready: everything ahead of it is done -/
def Rdy (L : List DI) (D : Nat → Bool) (d : DI) : Prop := ∀ k, d.b.testBit k = true → ∃ (r : Nat) (c : DI), L[r]? = some c ∧ c.i = k ∧ D r = true

/-- what p reads is what it read in the canonical run -/
theorem DInv.reads (hd : Drawn C.T nt ops L) (T : Trace rc L S q) (I : DInv C nt L S q ρ0 w0 D b ρ a w) (hp : L[p]? = some d) (hD : D p = false) (hr : Rdy L D d) (hpq : p ≤ q) {i : Nat} (hi : readsT d.a i = true) :
    getT (tD (dstL L) (valL L S) (S 0).t D L.length) i = getT (S p).t i := by
  have hl := T.le
  have hpl : p < L.length := (List.getElem?_eq_some_iff.1 hp).1
  rw [T.t hpq, ← tD_below p (n := L.length) (by omega) i]
  refine tD_congr fun r hrl hdst => ?_
  obtain ⟨c, hc⟩ : ∃ c, L[r]? = some c := ⟨_, List.getElem?_eq_getElem hrl⟩
  rw [dstL_some hc] at hdst
  by_cases e : r = p
  · subst e; rw [hD]; simp
  · have ht : touches c.a d.a = true := by simp only [touches, hdst, hi, Bool.or_true]
    rcases hd.tmps r p c d hc hp e ht with h1 | h1
    · -- p is ahead of r
      have hlt := hd.ahead p r d c hp hc h1
      have : D r = false := by
        cases hDr : D r with
        | false => rfl
        | true =>
          obtain ⟨r', c', k1, k2, k3⟩ := I.closed r c hc hDr _ h1
          have := hd.uniq r' p c' d k1 hp k2
          subst this; rw [hD] at k3; cases k3
      rw [this]; simp; omega
    · have hlt := hd.ahead r p c d hc hp h1
      obtain ⟨r', c', k1, k2, k3⟩ := hr _ h1
      have := hd.uniq r' r c' c k1 hc k2
      subst this
      rw [k3]; simp [hlt]

/-- p done: the temporaries -/
theorem DInv.put (hd : Drawn C.T nt ops L) (I : DInv C nt L S q ρ0 w0 D b ρ a w) (hp : L[p]? = some d) (hD : D p = false) (hr : Rdy L D d) (hD' : ∀ r, D' r = (D r || decide (r = p))) (i : Nat) :
    getT (tD (dstL L) (valL L S) (S 0).t D' L.length) i = getT (putD (tD (dstL L) (valL L S) (S 0).t D L.length) d.a.dst (valL L S p)) i := by
  have hpl : p < L.length := (List.getElem?_eq_some_iff.1 hp).1
  rw [← dstL_some hp]
  refine tD_put hpl hD' fun r h1 h2 h3 => ?_
  obtain ⟨c, hc⟩ : ∃ c, L[r]? = some c := by
    cases hc : L[r]? with
    | none => simp [dstL, hc] at h1
    | some c => exact ⟨c, rfl⟩
  rw [dstL_some hc] at h1
  rw [dstL_some hp] at h2
  have e : r ≠ p := fun e => by subst e; rw [hD] at h3; cases h3
  have ht : touches c.a d.a = true := by simp only [touches, h1, writesT, h2, beq_self_eq_true, Bool.true_or]
  rcases hd.tmps r p c d hc hp e ht with k | k
  · obtain ⟨r', c', k1, k2, k3⟩ := I.closed r c hc h3 _ k
    have := hd.uniq r' p c' d k1 hp k2
    subst this; rw [hD] at k3; cases k3
  · exact hd.ahead r p c d hc hp k

theorem DInv.closed' (I : DInv C nt L S q ρ0 w0 D b ρ a w) (hp : L[p]? = some d) (hr : Rdy L D d) (hD' : ∀ r, D' r = (D r || decide (r = p))) (p' : Nat) (d' : DI) (h1 : L[p']? = some d') (h2 : D' p' = true) (k : Nat) (hk : d'.b.testBit k = true) :
    ∃ (r : Nat) (c : DI), L[r]? = some c ∧ c.i = k ∧ D' r = true := by
  have key : ∃ (r : Nat) (c : DI), L[r]? = some c ∧ c.i = k ∧ D r = true := by
    rw [hD'] at h2
    simp only [Bool.or_eq_true, decide_eq_true_eq] at h2
    rcases h2 with h2 | rfl
    · exact I.closed p' d' h1 h2 k hk
    · rw [hp] at h1; cases h1; exact hr k hk
  obtain ⟨r, c, g1, g2, g3⟩ := key
  exact ⟨r, c, g1, g2, by rw [hD', g3]; rfl⟩

/-- a ready operation that is no X stands ahead of b -/
theorem DInv.quiet_lt (hd : Drawn C.T nt ops L) (I : DInv C nt L S q ρ0 w0 D b ρ a w) (hp : L[p]? = some d) (hx : d.a.op.isX = false) (hr : Rdy L D d) : p < b := by
  have hpl : p < L.length := (List.getElem?_eq_some_iff.1 hp).1
  refine Decidable.byContradiction fun hnb => ?_
  rcases I.bx with e | ⟨c, hc, hcx⟩
  · omega
  · by_cases e : p = b
    · subst e; rw [hp] at hc; cases hc; rw [hx] at hcx; cases hcx
    · obtain ⟨k, hk, hno⟩ := hd.early b p c d hc hp hcx hx (by omega)
      obtain ⟨r, c', k1, k2, k3⟩ := hr k hk
      exact hno r c' (I.below r k3) k1 k2

/-- a ready X is b -/
theorem DInv.x_eq (hd : Drawn C.T nt ops L) (I : DInv C nt L S q ρ0 w0 D b ρ a w) (hp : L[p]? = some d) (hD : D p = false) (hx : d.a.op.isX = true) (hr : Rdy L D d) : p = b := by
  have hpl : p < L.length := (List.getElem?_eq_some_iff.1 hp).1
  have hge : b ≤ p := Nat.le_of_not_lt fun hlt => by have := I.xs p d hlt hp hx; rw [hD] at this; cases this
  rcases I.bx with e | ⟨c, hc, hcx⟩
  · omega
  · refine Decidable.byContradiction fun hne => ?_
    have hk := hd.xord b p c d hc hp hcx hx (by omega)
    obtain ⟨r, c', k1, k2, k3⟩ := hr _ hk
    have := hd.uniq r b c' c k1 hc k2
    subst this
    have := I.below r k3
    omega
end
end Go.AM

/- A REGION WHOSE ORDER IS DRAWN: its steps. -/
namespace Go.AM

theorem Heap.alloc_ok {h : Heap} (_ : 0 ≤ h.next) (ao : AObj) : ∃ h', h.alloc ao = some (h.next, h') := ⟨_, rfl⟩

theorem checks_get {s : St} {r : AOper} : ∀ {rs : List AOper}, checks s rs = true → r ∈ rs → wantedA s.t r.guard = some true → ∃ j v h', r.dst = some j ∧ evOp r.op s.t s.h = some (v, h') ∧ v = getT s.t j
  | [], _, hm, _ => by cases hm
  | r' :: rs, hc, hm, hw => by
    simp only [checks, Bool.and_eq_true] at hc
    obtain ⟨hc1, hc2⟩ := hc
    rcases List.mem_cons.1 hm with rfl | hm
    · rw [hw] at hc1
      simp only at hc1
      split at hc1
      · rename_i j v h' hj hv
        exact ⟨j, v, h', hj, hv, sameA_eq hc1⟩
      · cases hc1
    · exact checks_get hc2 hm hw

theorem operA_inv {T : Tb} {nt : Nat} {ops : Array Oper} {o : Oper} {ao : AOper} (hao : operA T nt ops o = some ao) : opA T o.op = some ao.op ∧ ao.dst = o.dst ∧ (∀ j, o.dst = some j → j < nt) := by
  unfold operA at hao
  split at hao <;> try (cases hao; done)
  rename_i op hop
  split at hao <;> try (cases hao; done)
  rename_i hdd
  have hd' : ∀ j, o.dst = some j → j < nt := fun j hj => by rw [hj] at hdd; simpa using hdd
  split at hao
  · cases hao; exact ⟨hop, rfl, hd'⟩
  · split at hao <;> try (cases hao; done)
    cases hao; exact ⟨hop, rfl, hd'⟩

section
variable {rc : Rec} {L : List DI} {S : Nat → St} {q : Nat} {C : Cx} {nt : Nat} {ops : Array Oper} {ρ0 ρ ρ' : Pl} {w0 w w' : World} {D D' : Nat → Bool} {b p : Nat} {a a' : Act} {d : DI}

theorem valL_put (hp : L[p]? = some d) {v : AV} (hv : (S (p + 1)).t = putD (S p).t d.a.dst v) (t : Tm) : putD t d.a.dst v = putD t d.a.dst (valL L S p) := by
  cases hdst : d.a.dst with
  | none => rfl
  | some j =>
    have : valL L S p = v := by
      unfold valL
      rw [dstL_some hp, hdst]
      simp only [hv, hdst, getT_putD, if_true]
    rw [this]

theorem TR.ext {st : Stab} {ρ : Pl} {t t' : Tm} {tmps : Array Value} (h : TR st ρ t tmps) (he : ∀ i, getT t' i = getT t i) : TR st ρ t' tmps := fun i => by rw [he i]; exact h i

theorem DInv.bp_lt (I : DInv C nt L S q ρ0 w0 D b ρ a w) {p' : Nat} {ao : AObj} {bp : Nat} (hp : p' < b) (ha : (S p').h.alloc ao = some (bp, (S (p' + 1)).h)) : (S 0).h.next ≤ bp ∧ bp < (S b).h.next := by
  have h1 := (Heap.alloc_eq ha).1
  have h2 := (Heap.alloc_eq ha).2.1
  have h3 := I.mono 0 p' (by omega) (by omega)
  have h4 := I.mono (p' + 1) b (by omega) (by omega)
  omega

/-- behind an operation that is no X -/
theorem DInv.afterQuiet (hd : Drawn C.T nt ops L) (I : DInv C nt L S q ρ0 w0 D b ρ a w) (hp : L[p]? = some d) (hD : D p = false) (hr : Rdy L D d) (hpb : p < b) {v : AV} (hv : (S (p + 1)).t = putD (S p).t d.a.dst v)
    (hpost : Post C ρ0 (S 0).h w0 ρ' (S b).h w') (hst : StR C nt ρ' ⟨putD (tD (dstL L) (valL L S) (S 0).t D L.length) d.a.dst v, (S b).d, (S b).h⟩ a' w')
    (hh : ∀ (p' : Nat) (d' : DI) (ao : AObj) (bp : Nat), p' < b → p' ≠ p → D p' = false → L[p']? = some d' → d'.a.op.isX = false → (S p').h.alloc ao = some (bp, (S (p' + 1)).h) → ρ' bp = none) :
    DInv C nt L S q ρ0 w0 (fun r => D r || decide (r = p)) b ρ' a' w' where
  bq := I.bq
  bx := I.bx
  below := fun r h => by
    simp only [Bool.or_eq_true, decide_eq_true_eq] at h
    rcases h with h | rfl
    · exact I.below r h
    · exact hpb
  xs := fun r c h1 h2 h3 => by simp only [I.xs r c h1 h2 h3, Bool.true_or]
  closed := fun p' d' h1 h2 k hk => I.closed' hp hr (fun _ => rfl) p' d' h1 h2 k hk
  post := hpost
  st := ⟨hst.rel, hst.tmps.ext fun i => by rw [I.put hd hp hD hr (fun _ => rfl) i]; exact congrArg (getT · i) (valL_put hp hv _).symm, hst.room, hst.defers⟩
  mono := I.mono
  holes := fun p' d' ao bp h1 h2 h3 h4 h5 => by
    simp only [Bool.or_eq_false_iff, decide_eq_false_iff_not] at h2
    exact ⟨hh p' d' ao bp h1 h2.2 h2.1 h3 h4 h5, (I.holes p' d' ao bp h1 h2.1 h3 h4 h5).2⟩
  loads := fun p' d' h1 h2 h3 h4 h5 => by
    simp only [Bool.or_eq_false_iff, decide_eq_false_iff_not] at h2
    exact I.loads p' d' h1 h2.1 h3 h4 h5

theorem DInv.quietStep (hg : C.globOK) (hrc : RecOK C rc) {ro : Option Nat} (hd : Drawn C.T nt ops L) (T : Trace rc L S q) (I : DInv C nt L S q ρ0 w0 D b ρ a w) (hp : L[p]? = some d) (hD : D p = false) (hx : d.a.op.isX = false)
    (hr : Rdy L D d) {o : Oper} (ho : ops[d.i]? = some o) (hao : operA C.T nt ops o = some d.a) {K : Act → World → Prop} {Q : Exit → Act → World → Prop}
    (hK : ∀ ρ' a' w', DInv C nt L S q ρ0 w0 (fun r => D r || decide (r = p)) b ρ' a' w' → K a' w') : wpOpIn (wideAt ro) 0 C.T.P ops Q d.i K a w := by
  have hpb := I.quiet_lt hd hp hx hr
  have hpq : p < q := Nat.lt_of_lt_of_le hpb I.bq
  obtain ⟨s1, s2, s3⟩ := T.step p d hpq hp
  obtain ⟨hopd, hwt⟩ := reads_opds fun i hi => I.reads hd T hp hD hr (Nat.le_of_lt hpq) hi
  have hpl := isX_plain hx
  have hro : ro = none ∨ ∀ f l, d.a.op ≠ .deferv f l := .inr fun f l e => by rw [e] at hpl; cases hpl
  -- an operation that leaves the memory as it is
  have still : ∀ v, (S (p + 1)).t = putD (S p).t d.a.dst v → evOper rc d.a ⟨tD (dstL L) (valL L S) (S 0).t D L.length, (S b).d, (S b).h⟩ =
      some (.nrm, ⟨putD (tD (dstL L) (valL L S) (S 0).t D L.length) d.a.dst v, (S b).d, (S b).h⟩) → wpOpIn (wideAt ro) 0 C.T.P ops Q d.i K a w := fun v hv hev => by
    refine evOper_sim hg hrc ho hao hro hev I.st (fun ρ' a' w' _ hq hs => hK ρ' a' w' ?_) (fun _ _ _ _ _ hc => by cases hc)
    refine I.afterQuiet hd hp hD hr hpb hv (I.post.trans hq) hs fun p' d' ao bp h1 h2 h3 h4 h5 h6 => ?_
    exact (hq.old bp (I.bp_lt h1 h6).2 (I.holes p' d' ao bp h1 h3 h4 h5 h6).1).1
  obtain ⟨_, _, hq⟩ := evOper_quiet hx s1
  rcases hq with ⟨hw, h1, h2⟩ | ⟨hw, v, h1, h2⟩
  · refine still undefA h2 ?_
    have : d.a = ⟨d.a.dst, d.a.guard, d.a.op⟩ := rfl
    rw [this, evOper_plain hpl]
    simp only [hwt, hw]
  · have plain : ∀ h' v', evOp d.a.op (S p).t (S b).h = some (v', h') → evOper rc d.a ⟨tD (dstL L) (valL L S) (S 0).t D L.length, (S b).d, (S b).h⟩ =
        some (.nrm, ⟨putD (tD (dstL L) (valL L S) (S 0).t D L.length) d.a.dst v', (S b).d, h'⟩) := fun h' v' he => by
      have : d.a = ⟨d.a.dst, d.a.guard, d.a.op⟩ := rfl
      rw [this, evOper_plain hpl]
      simp only [hwt, hw, ev_congr hopd, he]
    cases hc : d.a.op.cl with
    | P => exact still v h2 (plain _ _ ((P_form hc h1).2 _))
    | L =>
      obtain ⟨v', k1, k2⟩ := I.loads p d hpb hD hp (by simp [AOp.isL, hc]) hw
      exact still v' k2 (plain _ _ k1)
    | X => simp [AOp.isX, hc] at hx
    | A =>
      obtain ⟨ao, bp, k, hk, halloc, rfl, hform⟩ := A_form hc h1
      obtain ⟨hn1, hn2⟩ := I.bp_lt hpb halloc
      obtain ⟨hnone, hgbp⟩ := I.holes p d ao bp hpb hD hp hx halloc
      have hlim : 0 ≤ (S b).h.next := by
        obtain ⟨b', rfl⟩ : ∃ b', b = b' + 1 := ⟨b - 1, by omega⟩
        have hbq := I.bq
        have hl := T.le
        obtain ⟨c, hc⟩ : ∃ c, L[b']? = some c := ⟨_, List.getElem?_eq_getElem (by omega)⟩
        exact (T.step b' c (by omega) hc).2.1
      obtain ⟨h2', ha2⟩ := Heap.alloc_ok (h := (S b).h) (by omega) ao
      obtain ⟨hdd, had⟩ := Heap.alloc_ok (h := (S b).h) (by omega) .dead
      have hdn := (Heap.alloc_eq had).2.1
      obtain ⟨h3', ha3⟩ := Heap.alloc_ok (h := hdd) (by omega) ao
      have hev2 := hform _ _ _ ha2
      have hev3 := hform _ _ _ ha3
      rw [← ev_congr (h := (S b).h) hopd] at hev2
      rw [← ev_congr (h := hdd) hopd] at hev3
      -- whether it is wanted; what it is
      have hop := operA_inv hao
      obtain ⟨hop1, hop2, hop3⟩ := hop
      have hwant := wanted_sim hao I.st.tmps (hwt.trans hw)
      obtain ⟨ρ2, y, w2, r1, r2, r3⟩ := op_sim hg I.st.rel I.st.tmps hop1 hev2
      obtain ⟨ρ3, y3, w3, t1, t2, t3⟩ := op_sim hg (I.st.rel.grow had) I.st.tmps hop1 hev3
      have hdet : y3 = y ∧ w3 = w2 := by
        rcases r1 with r1 | ⟨r1, rfl⟩ <;> rcases t1 with t1 | ⟨t1, rfl⟩ <;> rw [r1] at t1 <;> simp only [Result.ok.injEq, Next.value.injEq, reduceCtorEq, false_and, true_and] at t1
        · exact ⟨t1.1.symm, t1.2.symm⟩
        · exact ⟨rfl, t1.symm⟩
      obtain ⟨rfl, rfl⟩ := hdet
      obtain ⟨B, m, g1, g2⟩ := hk.vr r2
      obtain ⟨B3, m3, g3, _⟩ := hk.vr t2
      obtain ⟨f1, f2, f3, f4⟩ := Post.fill I.post hn1 hn2 hnone hgbp ha2 r3 g1 had ha3 t3 g3
      have hvr := g2 _ bp f2
      have hput : StR C nt (ρ.upd bp (B, m)) ⟨putD (tD (dstL L) (valL L S) (S 0).t D L.length) d.a.dst (k bp), (S b).d, (S b).h⟩ (a.put o.dst y3) w3 := by
        have hdr : DR C (ρ.upd bp (B, m)) w3 (S b).d a.defers := by
          have hm := DR.mono r3 I.st.defers
          -- the same, under the smaller placing
          have key : ∀ {l : List ADef} {ds : List Deferred}, DR C ρ w l ds → DR C (ρ.upd bp (B, m)) w3 l ds := by
            intro l
            induction l with
            | nil => exact fun h => ⟨h.1, Nat.le_trans h.2 r3.size⟩
            | cons x l ih =>
              intro ds h
              cases x with
              | call f args => obtain ⟨xs, cap, r, rfl, e1, e2⟩ := h; exact ⟨xs, cap, r, rfl, VRs.mono f3 _ _ e1, ih e2⟩
              | mark =>
                obtain ⟨b1, r, rfl, e0, e1, e2, e3⟩ := h
                have hb1 := (Array.getElem?_eq_some_iff.1 e1).1
                refine ⟨b1, r, rfl, e0, (r3.ext b1 hb1 e2).trans e1, fun x mm hxx => ?_, ih e3⟩
                by_cases ex : x = bp
                · subst ex
                  rw [f2] at hxx; cases hxx
                  exact r3.image hb1 e2 _ _ g1
                · simp only [Pl.upd, if_neg ex] at hxx
                  exact e2 x mm hxx
          exact key I.st.defers
        have h0 : StR C nt (ρ.upd bp (B, m)) ⟨tD (dstL L) (valL L S) (S 0).t D L.length, (S b).d, (S b).h⟩ a w3 := ⟨f1.rel, I.st.tmps.mono f3, I.st.room, hdr⟩
        have := h0.put (Post.refl f1.rel) (d := o.dst) hop3 hvr
        rw [hop2]
        exact this
      have hend : K (a.put o.dst y3) w3 := by
        refine hK _ _ _ (I.afterQuiet hd hp hD hr hpb h2 f1 hput fun p' d' ao' bp' e1 e2 e3 e4 e5 e6 => ?_)
        have hne : bp' ≠ bp := by
          have x1 := (Heap.alloc_eq e6).1
          have x2 := (Heap.alloc_eq e6).2.1
          have x3 := (Heap.alloc_eq halloc).1
          have x4 := (Heap.alloc_eq halloc).2.1
          rcases Nat.lt_or_gt_of_ne e2 with hlt | hlt
          · have := I.mono (p' + 1) p (by omega) (by omega); omega
          · have := I.mono (p + 1) p' (by omega) (by omega); omega
        exact f4 bp' (I.bp_lt e1 e6).2 hne (I.holes p' d' ao' bp' e1 e3 e4 e5 e6).1
      unfold wpOpIn
      simp only [ho]
      rw [hwant]
      simp only [if_true]
      refine ⟨fun _ _ => trivial, ?_⟩
      rw [Oper.semAt_eq _ _ _ (fun c hcc => by
        rw [hcc] at hop1
        simp only [opA] at hop1
        split at hop1 <;> try (cases hop1; done)
        split at hop1 <;> try (cases hop1; done)
        simp only [Option.some.injEq] at hop1
        rw [← hop1] at hpl; cases hpl)]
      rcases r1 with r1 | ⟨r1, rfl⟩
      · rw [r1, Oper.uponIn_value]; exact hend
      · rw [r1, Oper.uponIn_skip]; exact hend
end
end Go.AM

/- A REGION WHOSE ORDER IS DRAWN: the step of an operation that may write; the whole. -/
namespace Go.AM

section
variable {rc : Rec} {L : List DI} {S : Nat → St} {q : Nat} {C : Cx} {nt : Nat} {ops : Array Oper} {ρ0 ρ ρ' : Pl} {w0 w w' : World} {D D' : Nat → Bool} {b p : Nat} {a a' : Act} {d : DI}

/-- a load ahead of b that need not be: it reads the same behind b -/
theorem DInv.reload (hd : Drawn C.T nt ops L) (T : Trace rc L S q) (I : DInv C nt L S q ρ0 w0 D b ρ a w) (hb : L[b]? = some d) (hx : d.a.op.isX = true) (hr : Rdy L D d) (hbq : b < q) {p : Nat} {e : DI} (hp : L[p]? = some e) (hpb : p < b)
    (hD : D p = false) (hl : e.a.op.isL = true) (hw : wantedA (S p).t e.a.guard = some true) :
    ∃ v, evOp e.a.op (S p).t (S (b + 1)).h = some (v, (S (b + 1)).h) ∧ (S (p + 1)).t = putD (S p).t e.a.dst v := by
  have hTl := T.le
  have hbit : d.b.testBit e.i = false := by
    cases hk : d.b.testBit e.i with
    | false => rfl
    | true =>
      obtain ⟨r, c, k1, k2, k3⟩ := hr _ hk
      have := hd.uniq r p c e k1 hp k2
      subst this; rw [hD] at k3; cases k3
  obtain ⟨m1, m2, m3⟩ := hd.reads b p d e hb hp hx hl hpb hbit
  obtain ⟨s1, s2, s3⟩ := T.step b d hbq hb
  have hreads : ∀ i, readsT e.a i = true → getT (S (b + 1)).t i = getT (S p).t i := fun i hi => by
    rw [T.t (p := b + 1) (by omega), T.t (p := p) (by omega), ← tD_below (b + 1) (n := L.length) (by omega) i, ← tD_below p (n := L.length) (by omega) i]
    refine tD_congr fun r hrl hdst => ?_
    obtain ⟨c, hc⟩ : ∃ c, L[r]? = some c := ⟨_, List.getElem?_eq_getElem hrl⟩
    rw [dstL_some hc] at hdst
    by_cases er : r = p
    · subst er
      rw [hp] at hc; cases hc
      rw [m2 i hdst] at hi; cases hi
    · rcases (m3 r c i hc er hdst).2 with k | k
      · rw [hi] at k; cases k
      · have := hd.ahead r p c e hc hp k
        have h1 : r < b + 1 := by omega
        simp [this, h1]
  obtain ⟨hopd, hwt⟩ := reads_opds hreads
  obtain ⟨j, v, h', k1, k2, k3⟩ := checks_get s3 m1 (hwt.trans hw)
  have hv : v = valL L S p := by
    rw [k3, T.t (p := b + 1) (by omega)]
    refine tD_last rfl (by rw [dstL_some hp, k1]) (by omega) fun r h1 h2 h3 => ?_
    exfalso
    obtain ⟨c, hc⟩ : ∃ c, L[r]? = some c := ⟨_, List.getElem?_eq_getElem (by omega)⟩
    rw [dstL_some hc] at h3
    exact (m3 r c j hc (by omega) h3).1 k1
  rw [ev_congr hopd] at k2
  have hcl : e.a.op.cl = .L := by
    unfold AOp.isL at hl
    split at hl
    · assumption
    · cases hl
  obtain ⟨rfl, _⟩ := L_form hcl k2
  refine ⟨v, k2, ?_⟩
  rw [T.put (by omega) hp, hv]

theorem DInv.xStep (hg : C.globOK) (hrc : RecOK C rc) {ro : Option Nat} (hd : Drawn C.T nt ops L) (T : Trace rc L S q) (I : DInv C nt L S q ρ0 w0 D b ρ a w) (hp : L[b]? = some d) (hD : D b = false) (hx : d.a.op.isX = true)
    (hr : Rdy L D d) (hbq : b < q) {o : Oper} (ho : ops[d.i]? = some o) (hao : operA C.T nt ops o = some d.a) (hro : ro = none ∨ ∀ f l, d.a.op ≠ .deferv f l) {K : Act → World → Prop} {Q : Exit → Act → World → Prop}
    (hK : ∀ b' ρ' a' w', DInv C nt L S q ρ0 w0 (fun r => D r || decide (r = b)) b' ρ' a' w' → K a' w') : wpOpIn (wideAt ro) 0 C.T.P ops Q d.i K a w := by
  have hTl := T.le
  obtain ⟨s1, s2, s3⟩ := T.step b d hbq hp
  obtain ⟨t1, u1, u2, u3, u4⟩ := evOper_congr (rc := rc) (o := d.a) (t1 := tD (dstL L) (valL L S) (S 0).t D L.length) (t2 := (S b).t) (d := (S b).d) (h := (S b).h) (fun i hi => I.reads hd T hp hD hr (Nat.le_of_lt hbq) hi) s1
  obtain ⟨v, u5, u6⟩ : ∃ v, (S (b + 1)).t = putD (S b).t d.a.dst v ∧ t1.t = putD (tD (dstL L) (valL L S) (S 0).t D L.length) d.a.dst v := by
    rcases u4 with ⟨_, h⟩ | ⟨h, _⟩
    · exact h
    · exact absurd rfl h
  refine evOper_sim hg hrc ho hao hro u1 I.st (fun ρ' a' w' _ hq hs => ?_) (fun _ _ _ _ _ hc => by cases hc)
  simp only at hq
  rw [u2] at hq
  obtain ⟨b', n1, n2, n3, n4⟩ := T.next (q - (b + 1)) (b + 1) hbq rfl
  obtain ⟨g1, g2, g3⟩ := T.run n1 n2 n4
  have hpost := T.grow (I.post.trans hq) n1 n2 n4
  refine hK b' ρ' a' w' ⟨n2, n3, ?_, ?_, fun p' d' h1 h2 k hk => I.closed' hp hr (fun _ => rfl) p' d' h1 h2 k hk, hpost, ⟨hpost.rel, ?_, hs.room, ?_⟩, ?_, ?_, ?_⟩
  · intro r h
    simp only [Bool.or_eq_true, decide_eq_true_eq] at h
    rcases h with h | rfl
    · have := I.below r h; omega
    · omega
  · intro r c h1 h2 h3
    by_cases e1 : r < b
    · simp only [I.xs r c e1 h2 h3, Bool.true_or]
    · by_cases e2 : r = b
      · simp [e2]
      · have := n4 r c (by omega) h1 h2
        rw [h3] at this; cases this
  · refine hs.tmps.ext fun i => ?_
    rw [I.put hd hp hD hr (fun _ => rfl) i, u6]
    exact congrArg (getT · i) (valL_put hp u5 _).symm
  · simp only
    rw [g1, ← u3]
    exact hs.defers
  · intro x y hxy hyb
    by_cases e1 : y ≤ b
    · exact I.mono x y hxy e1
    · have hy := (T.run (c := b + 1) (c' := y) (by omega) (by omega) fun r c h1 h2 h3 => n4 r c h1 (by omega) h3).2.2
      by_cases e2 : x ≤ b
      · have := I.mono x b e2 (Nat.le_refl _)
        have := hq.next
        omega
      · exact (T.run (c := x) (c' := y) hxy (by omega) fun r c h1 h2 h3 => n4 r c (by omega) (by omega) h3).2.2
  · intro p' d' ao bp h1 h2 h3 h4 h5
    simp only [Bool.or_eq_false_iff, decide_eq_false_iff_not] at h2
    by_cases e1 : p' < b
    · obtain ⟨k1, k2⟩ := I.holes p' d' ao bp e1 h2.1 h3 h4 h5
      obtain ⟨k3, k4⟩ := hq.old bp (I.bp_lt e1 h5).2 k1
      have hn := hq.next
      have hbl := (I.bp_lt e1 h5).2
      exact ⟨k3, (Heap.find_some.1 (g2 bp ao (Heap.find_of (by omega) (k4.trans k2)))).2⟩
    · have hrun := T.run (c := b + 1) (c' := p') (by omega) (by omega) fun r c h1 h2 h3 => n4 r c h1 (by omega) h3
      obtain ⟨j1, j2, j3, j4⟩ := Heap.alloc_eq h5
      have hsub := (T.run (c := p' + 1) (c' := b') (by omega) (by omega) fun r c h1 h2 h3 => n4 r c (by omega) (by omega) h3).2.1
      refine ⟨hq.rel.none (by omega), ?_⟩
      exact (Heap.find_some.1 (hsub bp ao (Heap.find_of (by omega) (by rw [j4 bp (by omega), if_pos j1.symm])))).2
  · intro p' d' h1 h2 h3 h4 h5
    simp only [Bool.or_eq_false_iff, decide_eq_false_iff_not] at h2
    have hcl : d'.a.op.cl = .L := by
      unfold AOp.isL at h4
      split at h4
      · assumption
      · cases h4
    by_cases e1 : p' < b
    · obtain ⟨v', k1, k2⟩ := I.reload hd T hp hx hr hbq h3 e1 h2.1 h4 h5
      exact ⟨v', (L_form hcl k1).2 _ g2, k2⟩
    · obtain ⟨z1, _, _⟩ := T.step p' d' (by omega) h3
      have hnx : d'.a.op.isX = false := by simp [AOp.isX, hcl]
      obtain ⟨_, _, hz⟩ := evOper_quiet hnx z1
      rcases hz with ⟨hw, _⟩ | ⟨_, v', k1, k2⟩
      · rw [h5] at hw; cases hw
      · have hsub := (T.run (c := p') (c' := b') (by omega) (by omega) fun r c h1 h2 h3 => n4 r c (by omega) (by omega) h3).2.1
        exact ⟨v', (L_form hcl k1).2 _ hsub, k2⟩

theorem poison_get {i : Nat} : ∀ {its : List (AOper × List AOper)} {t : Tm}, getT (poison t its) i = .bot ∨ (getT (poison t its) i = getT t i ∧ ∀ o rs, (o, rs) ∈ its → o.dst ≠ some i)
  | [], t => .inr ⟨rfl, fun o rs h => by cases h⟩
  | (o, rs) :: its, t => by
    simp only [poison]
    rcases poison_get (i := i) (its := its) (t := putD t o.dst .bot) with h | ⟨h1, h2⟩
    · exact .inl h
    · rw [getT_putD] at h1
      by_cases e : o.dst = some i
      · rw [if_pos e] at h1; exact .inl h1
      · rw [if_neg e] at h1
        refine .inr ⟨h1, fun o' rs' hm => ?_⟩
        rcases List.mem_cons.1 hm with hm | hm
        · cases hm; exact e
        · exact h2 o' rs' hm
end
end Go.AM

/- A REGION WHOSE ORDER IS DRAWN: the whole. -/
namespace Go.AM

theorem countP_lt {α : Type} {p q : α → Bool} : ∀ {l : List α}, (∀ x ∈ l, q x = true → p x = true) → (∃ x ∈ l, p x = true ∧ q x = false) → l.countP q < l.countP p
  | [], _, h => by obtain ⟨_, h, _⟩ := h; cases h
  | x :: l, h1, h2 => by
    have hle : l.countP q ≤ l.countP p := List.countP_mono_left fun y hy => h1 y (List.mem_cons_of_mem _ hy)
    by_cases hx : p x = true ∧ q x = false
    · rw [List.countP_cons_of_pos hx.1, List.countP_cons_of_neg (by simp [hx.2])]; omega
    · obtain ⟨y, hy, hpq⟩ := h2
      rcases List.mem_cons.1 hy with rfl | hy
      · exact absurd hpq hx
      · have ih := countP_lt (l := l) (fun y hy => h1 y (List.mem_cons_of_mem _ hy)) ⟨y, hy, hpq⟩
        cases hq : q x with
        | true => rw [List.countP_cons_of_pos hq, List.countP_cons_of_pos (h1 x (List.mem_cons_self ..) hq)]; omega
        | false =>
          rw [List.countP_cons_of_neg (by simp [hq])]
          cases hp : p x with
          | true => exact absurd ⟨hp, hq⟩ hx
          | false => rw [List.countP_cons_of_neg (by simp [hp])]; exact ih

theorem mem_ready {ops : Array Oper} {listed : Array Bool} {i : Nat} : i ∈ Region.ready .any ops listed ↔ i < ops.size ∧ listed.getD i true = false ∧ ∃ o, ops[i]? = some o ∧ ∀ e ∈ o.after.toList, Region.binds .any e = true → listed.getD e.on false = true := by
  unfold Region.ready
  simp only [List.mem_filter, List.mem_range, Bool.and_eq_true, Bool.not_eq_true']
  refine and_congr_right fun hi => and_congr_right fun _ => ?_
  have : ops[i]? = some ops[i] := Array.getElem?_eq_getElem hi
  rw [this]
  simp only [Option.map_some, Option.getD_some, Option.some.injEq, exists_eq_left']
  rw [Array.all_eq_true_iff_forall_mem]
  constructor
  · intro h e he hb
    have := h e (by simpa using he)
    rw [hb] at this
    simpa using this
  · intro h e he
    cases hb : Region.binds .any e with
    | false => rfl
    | true => rw [h e (by simpa using he) hb]; rfl

section
variable {rc : Rec} {L : List DI} {S : Nat → St} {q : Nat} {C : Cx} {nt : Nat} {ops : Array Oper} {ρ0 ρ : Pl} {w0 w : World} {D : Nat → Bool} {b : Nat} {a : Act}

/-- the listed ones are those done -/
structure Lk (ops : Array Oper) (L : List DI) (listed : Array Bool) (D : Nat → Bool) : Prop where
  size : listed.size = ops.size
  eq : ∀ (p : Nat) (d : DI), L[p]? = some d → listed.getD d.i false = D p

theorem Lk.set (hd : Drawn C.T nt ops L) {listed : Array Bool} (hl : Lk ops L listed D) {p : Nat} {d : DI} (hp : L[p]? = some d) : Lk ops L (listed.setIfInBounds d.i true) (fun r => D r || decide (r = p)) := by
  have hdi : d.i < listed.size := by
    obtain ⟨o, ho, _⟩ := hd.oper p d hp
    rw [hl.size]; exact (Array.getElem?_eq_some_iff.1 ho).1
  refine ⟨by simp [hl.size], fun r c hc => ?_⟩
  by_cases e : r = p
  · subst e
    rw [hp] at hc; cases hc
    simp [Array.getD_eq_getD_getElem?, hdi]
  · have hne : d.i ≠ c.i := fun h => e (hd.uniq r p c d hc hp h.symm)
    have := hl.eq r c hc
    simp only [Array.getD_eq_getD_getElem?, Array.getElem?_setIfInBounds_ne hne] at this ⊢
    rw [this]; simp [e]

theorem Lk.getD {listed : Array Bool} (hl : Lk ops L listed D) {i : Nat} (hi : i < ops.size) (x y : Bool) : listed.getD i x = listed.getD i y := by
  have : i < listed.size := by rw [hl.size]; exact hi
  simp [Array.getD_eq_getD_getElem?, this]

theorem Lk.ready (hd : Drawn C.T nt ops L) (I : DInv C nt L S q ρ0 w0 D b ρ a w) {listed : Array Bool} (hl : Lk ops L listed D) {i : Nat} (hi : i ∈ Region.ready .any ops listed) :
    ∃ (p : Nat) (d : DI) (o : Oper), L[p]? = some d ∧ d.i = i ∧ D p = false ∧ Rdy L D d ∧ ops[d.i]? = some o ∧ operA C.T nt ops o = some d.a := by
  obtain ⟨h1, h2, o, h3, h4⟩ := mem_ready.1 hi
  obtain ⟨p, d, hp, rfl⟩ := hd.cover i h1
  obtain ⟨o', k1, k2, k3, k4, k5⟩ := hd.oper p d hp
  rw [h3] at k1; cases k1
  refine ⟨p, d, o, hp, rfl, ?_, fun k hk => ?_, h3, k2⟩
  · rw [← hl.eq p d hp, hl.getD h1 false true]; exact h2
  · obtain ⟨e, he, hb, hon⟩ := k5 k hk
    obtain ⟨r, c, g1, g2, g3⟩ := k4 e he hb
    have hDr : D r = true := by rw [← hl.eq r c g2, g3]; exact h4 e he hb
    rcases hon with hon | hon
    · exact ⟨r, c, g2, g3.trans hon, hDr⟩
    · obtain ⟨_, _, _, j3, _⟩ := hd.oper r c g2
      exact I.closed r c g2 hDr k (by rw [j3, g3]; exact hon)

theorem Lk.full (hd : Drawn C.T nt ops L) {listed : Array Bool} (hl : Lk ops L listed D) (hr : Region.ready .any ops listed = []) : ∀ (n p : Nat) (d : DI), p < n → L[p]? = some d → D p = true
  | 0, p, d, h, _ => absurd h (by omega)
  | n + 1, p, d, h, hp => by
    cases hD : D p with
    | true => rfl
    | false =>
      exfalso
      obtain ⟨o, k1, k2, k3, k4, k5⟩ := hd.oper p d hp
      have hi := (Array.getElem?_eq_some_iff.1 k1).1
      have : d.i ∈ Region.ready .any ops listed := mem_ready.2 ⟨hi, by rw [hl.getD hi true false, hl.eq p d hp]; exact hD, o, k1, fun e he hb => by
        obtain ⟨r, c, g1, g2, g3⟩ := k4 e he hb
        rw [← g3, hl.eq r c g2]
        exact hl.full hd hr n r c (by omega) g2⟩
      rw [hr] at this; cases this

theorem drawn_any (hg : C.globOK) (hrc : RecOK C rc) {ro : Option Nat} (hd : Drawn C.T nt ops L) (T : Trace rc L S q) (hro : ro = none ∨ ∀ (p : Nat) (d : DI), L[p]? = some d → d.a.op.isDefer = false) {Q : Exit → Act → World → Prop}
    (hnrm : ∀ D b ρ a w, DInv C nt L S q ρ0 w0 D b ρ a w → (∀ (p : Nat) (d : DI), L[p]? = some d → D p = true) → Q .normal a w)
    (hpan : ∀ D ρ a w (d : DI) (o : Oper), DInv C nt L S q ρ0 w0 D q ρ a w → L[q]? = some d → D q = false → Rdy L D d → ops[d.i]? = some o → operA C.T nt ops o = some d.a → ∀ K, wpOpIn (wideAt ro) 0 C.T.P ops Q d.i K a w) :
    ∀ (fuel : Nat) (listed : Array Bool) (D : Nat → Bool) (b : Nat) (ρ : Pl) (a : Act) (w : World), Lk ops L listed D → DInv C nt L S q ρ0 w0 D b ρ a w →
      (List.range ops.size).countP (fun i => !listed.getD i true) ≤ fuel → wpAnyIn (wideAt ro) 0 C.T.P .any ops Q fuel listed a w
  | 0, listed, D, b, ρ, a, w, hl, I, hf => by
    have hr : Region.ready .any ops listed = [] := by
      refine List.eq_nil_iff_forall_not_mem.2 fun i hi => ?_
      obtain ⟨h1, h2, _⟩ := mem_ready.1 hi
      have : 0 < (List.range ops.size).countP (fun i => !listed.getD i true) := List.countP_pos_iff.2 ⟨i, List.mem_range.2 h1, by rw [h2]; rfl⟩
      omega
    exact ⟨hr, hnrm D b ρ a w I fun p d hp => hl.full hd hr (p + 1) p d (by omega) hp⟩
  | fuel + 1, listed, D, b, ρ, a, w, hl, I, hf => by
    refine ⟨fun hr => hnrm D b ρ a w I fun p d hp => hl.full hd hr (p + 1) p d (by omega) hp, fun i hi => ?_⟩
    have hmem := mem_ready.1 hi
    obtain ⟨p, d, o, hp, rfl, hD, hr, ho, hao⟩ := hl.ready hd I hi
    have hcount : (List.range ops.size).countP (fun i => !(listed.setIfInBounds d.i true).getD i true) ≤ fuel := by
      have hsz : d.i < listed.size := by rw [hl.size]; exact hmem.1
      have : (List.range ops.size).countP (fun i => !(listed.setIfInBounds d.i true).getD i true) < (List.range ops.size).countP (fun i => !listed.getD i true) := by
        refine countP_lt (fun x _ hx => ?_) ⟨d.i, List.mem_range.2 hmem.1, by rw [hmem.2.1]; rfl, by simp [Array.getD_eq_getD_getElem?, hsz]⟩
        by_cases e : d.i = x
        · subst e; simp [Array.getD_eq_getD_getElem?, hsz] at hx
        · simpa only [Array.getD_eq_getD_getElem?, Array.getElem?_setIfInBounds_ne e] using hx
      omega
    cases hx : d.a.op.isX with
    | false =>
      exact I.quietStep hg hrc hd T hp hD hx hr ho hao fun ρ' a' w' I' => drawn_any hg hrc hd T hro hnrm hpan fuel _ _ b ρ' a' w' (hl.set hd hp) I' hcount
    | true =>
      have e := I.x_eq hd hp hD hx hr
      subst e
      have hro' : ro = none ∨ ∀ f l, d.a.op ≠ .deferv f l := by
        rcases hro with h | h
        · exact .inl h
        · exact .inr fun f l e => by have := h p d hp; rw [e] at this; cases this
      by_cases hq : p < q
      · exact I.xStep hg hrc hd T hp hD hx hr hq ho hao hro' fun b' ρ' a' w' I' => drawn_any hg hrc hd T hro hnrm hpan fuel _ _ b' ρ' a' w' (hl.set hd hp) I' hcount
      · have e : p = q := by have := I.bq; omega
        subst e
        exact hpan D ρ a w d o I hp hD hr ho hao _
end
end Go.AM

/- A REGION WHOSE ORDER IS DRAWN: what its abstract run says. -/
namespace Go.AM
section
variable {C : Cx} {ρ : Pl} {w : World} {a : Act}

/-- the state that is left, where a region of which the order is drawn panics -/
def endDraw (its : List (AOper × List AOper)) (t : Tm) (x : AX) (s' : St) : St := match x with | .pan _ => { s' with t := poison t its } | _ => s'

theorem draw_sim {rc : Rec} {nt id : Nat} {ro : Option Nat} (hm : C.T.P.follows .mixedOrders = true) (hg : C.globOK) (hrc : RecOK C rc) {ops : Array Oper} {its : List (AOper × List AOper)} (hits : drawA C.T nt ops = some its)
    (hro : ro = none ∨ ∀ o rs, (o, rs) ∈ its → o.op.isDefer = false) {x : AX} {s s' : St} (hev : evDraw rc its s = some (x, s')) (hs : StR C nt ρ s a w) :
    (Code.region id ops true).wpIn (wideAt ro) 0 C.T.P (EndS C nt ρ s.h w x (endDraw its s.t x s')) a w := by
  obtain ⟨L, hd, hlen, hget⟩ := drawA_sound hits
  obtain ⟨S, q, hS0, hq, hstep, hend⟩ := evDraw_trace hev
  subst hS0
  have T : Trace rc L S q := by
    refine ⟨by omega, fun p d hp hpd => ?_, fun d hpd => ?_⟩
    · obtain ⟨o, rs, k1, k2, k3, k4⟩ := hstep p hp
      rw [hget p d hpd] at k1; cases k1
      exact ⟨k2, k3, k4⟩
    · rcases hend with ⟨_, h2, _⟩ | ⟨_, h2, o, rs, h3, h4⟩
      · have := (List.getElem?_eq_some_iff.1 hpd).1; omega
      · rw [hget q d hpd] at h3; cases h3
        cases hx : d.a.op.isX with
        | true => rfl
        | false => exact absurd (evOper_quiet hx h4).1 h2
  have hmem : ∀ (p : Nat) (d : DI), L[p]? = some d → (d.a, reOf (L.take p) d) ∈ its := fun p d hp => List.mem_of_getElem? (hget p d hp)
  have hmem' : ∀ o rs, (o, rs) ∈ its → ∃ (p : Nat) (d : DI), L[p]? = some d ∧ d.a = o := fun o rs h => by
    obtain ⟨p, hp⟩ := List.mem_iff_getElem?.1 h
    obtain ⟨d, hpd⟩ : ∃ d, L[p]? = some d := ⟨_, List.getElem?_eq_getElem (by have := (List.getElem?_eq_some_iff.1 hp).1; omega)⟩
    rw [hget p d hpd] at hp; cases hp
    exact ⟨p, d, hpd, rfl⟩
  refine wpIn_region_any hm ?_
  have hrel0 := hs.rel.drawn (w.drawn + 1)
  obtain ⟨b, n1, n2, n3, n4⟩ := T.next q 0 (Nat.zero_le _) (by omega)
  have hrun := fun (c c' : Nat) (h1 : c ≤ c') (h2 : c' ≤ b) => T.run (c := c) (c' := c') h1 (by omega) fun r d _ h4 h5 => n4 r d (Nat.zero_le _) (by omega) h5
  have hpost0 : Post C ρ (S 0).h { w with drawn := w.drawn + 1 } ρ (S b).h { w with drawn := w.drawn + 1 } := T.grow (Post.refl hrel0) (Nat.zero_le _) n2 n4
  have I0 : DInv C nt L S q ρ { w with drawn := w.drawn + 1 } (fun _ => false) b ρ a { w with drawn := w.drawn + 1 } := by
    refine ⟨n2, n3, (fun p h => by cases h), fun p d h1 h2 h3 => ?_, (fun p d h1 h2 => by cases h2), hpost0, ⟨hpost0.rel, ?_, hs.room, ?_⟩, fun p p' h1 h2 => (hrun p p' h1 h2).2.2, ?_, ?_⟩
    · have := n4 p d (Nat.zero_le _) h1 h2
      rw [h3] at this; cases this
    · exact hs.tmps.ext fun i => tD_none fun _ _ _ => rfl
    · simp only
      rw [(hrun 0 b (Nat.zero_le _) (Nat.le_refl _)).1]
      exact DR.mono (Post.drawn hs.rel (w.drawn + 1)) hs.defers
    · intro p d ao bp h1 _ h3 h4 h5
      obtain ⟨j1, j2, j3, j4⟩ := Heap.alloc_eq h5
      have h0p := (hrun 0 p (Nat.zero_le _) (by omega)).2.2
      have hsub := (hrun (p + 1) b (by omega) (Nat.le_refl _)).2.1
      exact ⟨hs.rel.none (by omega), (Heap.find_some.1 (hsub bp ao (Heap.find_of (by omega) (by rw [j4 bp (by omega), if_pos j1.symm])))).2⟩
    · intro p d h1 _ h3 h4 h5
      have hcl : d.a.op.cl = .L := by
        unfold AOp.isL at h4
        split at h4
        · assumption
        · cases h4
      obtain ⟨z1, _, _⟩ := T.step p d (by omega) h3
      obtain ⟨_, _, hz⟩ := evOper_quiet (by simp [AOp.isX, hcl]) z1
      rcases hz with ⟨hw, _⟩ | ⟨_, v', k1, k2⟩
      · rw [h5] at hw; cases hw
      · exact ⟨v', (L_form hcl k1).2 _ (hrun p b (by omega) (Nat.le_refl _)).2.1, k2⟩
  have hdr : Post C ρ (S 0).h w ρ (S 0).h { w with drawn := w.drawn + 1 } := Post.drawn hs.rel (w.drawn + 1)
  refine drawn_any hg hrc hd T (hro.imp (fun h => h) fun h p d hp => h _ _ (hmem p d hp)) ?_ ?_ ops.size _ _ b ρ a _ ⟨by simp, fun p d hp => ?_⟩ I0 (Nat.le_trans List.countP_le_length (by simp))
  · -- all done
    intro D b ρ' a' w' I hall
    have hTl := T.le
    have hb : b = L.length := by
      rcases I.bx with h | ⟨d, h1, _⟩
      · exact h
      · have := I.below b (hall b d h1); omega
    have hbq := I.bq
    have hqe : q = L.length := by omega
    rcases hend with ⟨rfl, h2, rfl⟩ | ⟨h1, _⟩
    · refine ⟨ρ', trivial, hdr.trans ?_, ?_⟩
      · have := I.post
        rw [hb, ← hqe] at this
        exact this
      · have hst := I.st
        rw [hb, ← hqe] at hst
        refine ⟨hst.rel, hst.tmps.ext fun i => ?_, hst.room, hst.defers⟩
        show getT (S q).t i = _
        rw [T.t (Nat.le_refl q)]
        simp only
        refine tD_congr fun r hr _ => ?_
        obtain ⟨d, hd'⟩ : ∃ d, L[r]? = some d := ⟨_, List.getElem?_eq_getElem (by omega)⟩
        rw [hall r d hd']
    · omega
  · -- a panic
    intro D ρ' a' w' d o I hp hD hr ho hao K
    rcases hend with ⟨_, h2, _⟩ | ⟨h1, h2, o', rs, h3, h4⟩
    · have := (List.getElem?_eq_some_iff.1 hp).1; omega
    · rw [hget q d hp] at h3; cases h3
      have hro' : ro = none ∨ ∀ f l, d.a.op ≠ .deferv f l := by
        rcases hro with h | h
        · exact .inl h
        · exact .inr fun f l e => by have := h _ _ (hmem q d hp); rw [e] at this; cases this
      obtain ⟨t1, u1, u2, u3, u4⟩ := evOper_congr (rc := rc) (o := d.a) (t1 := tD (dstL L) (valL L S) (S 0).t D L.length) (t2 := (S q).t) (d := (S q).d) (h := (S q).h) (fun i hi => I.reads hd T hp hD hr (Nat.le_refl _) hi) h4
      have u5 : t1.t = tD (dstL L) (valL L S) (S 0).t D L.length := by
        rcases u4 with ⟨h, _⟩ | ⟨_, h⟩
        · exact absurd h h2
        · exact h
      refine evOper_sim hg hrc ho hao hro' u1 I.st (fun _ _ _ hc => absurd hc h2) (fun ρ2 a2 w2 v y hx hpo hst hv => ?_)
      subst hx
      simp only at hpo
      rw [u2] at hpo
      refine ⟨ρ2, ⟨y, rfl, hv⟩, (hdr.trans I.post).trans hpo, ⟨?_, ?_, hst.room, ?_⟩⟩
      · have := hst.rel; rw [u2] at this; exact this
      · intro i
        show VR C.st ρ2 (getT (poison (S 0).t its) i) _
        rcases poison_get (i := i) (its := its) (t := (S 0).t) with h | ⟨h, hno⟩
        · rw [h]; simp only [VR]
        · rw [h]
          have := hst.tmps i
          rw [u5, tD_none (fun r hrl hdst => ?_)] at this
          · exact this
          · exfalso
            obtain ⟨c, hc⟩ : ∃ c, L[r]? = some c := ⟨_, List.getElem?_eq_getElem hrl⟩
            rw [dstL_some hc] at hdst
            exact hno _ _ (hmem r c hc) hdst
      · have := hst.defers; rw [u3] at this; exact this
  · obtain ⟨o, ho, _⟩ := hd.oper p d hp
    have := (Array.getElem?_eq_some_iff.1 ho).1
    simp [Array.getD_eq_getD_getElem?, this]
end
end Go.AM

/- CODE: its abstract run stands for the model's. -/
namespace Go.AM
/-- a scope out of which, and within which, nothing jumps by 'goto' -/
theorem wpIn_scope' {F : Fence} {n : Nat} {P : Program} {c : Code} {Q : Exit → Act → World → Prop} {a : Act} {w : World} (h : c.wpIn F n P (fun e a w => (∀ l, e ≠ .goto l) ∧ Q e a w) a w) : (Code.scope c).wpIn F n P Q a w := by
  intro b k cs hro hb hr
  have h0 : (lone (b.atR a (.code (.scope c) :: k)) cs w).fenced P F := fenced_calm hb hr rfl
  have s0 : step P (lone (b.atR a (.code (.scope c) :: k)) cs w) = .next (lone (b.atR a (.code c :: .inScope c :: k)) cs w) := step_lone_go (by simp [stepG, stepG.exec, Frame.atR])
  have s1 : ∀ a₁ w₁, step P (lone (b.atR a₁ (.inScope c :: k)) cs w₁) = .next (lone (b.atR a₁ k) cs w₁) := fun a₁ w₁ => step_lone_go (by simp [stepG, stepG.exec, Frame.atR])
  obtain ⟨e, a₁, w₁, ⟨hng, hq⟩, harr⟩ := h b (.inScope c :: k) cs hro hb hr
  cases e with
  | normal => exact ⟨.normal, a₁, w₁, hq, .head h0 s0 (StepsIn.trans harr (.one (fenced_calm hb hr rfl) (s1 a₁ w₁)))⟩
  | exit id' =>
    have hx : exitTo id' (.inScope c :: k) = exitTo id' k := by simp [exitTo]
    exact ⟨.exit id', a₁, w₁, hq, fun k' hk => .head h0 s0 (harr.1 k' (by rw [hx]; exact hk)),
      fun hr' hk => let ⟨k₁, h1, h2⟩ := harr.2 hr' (by rw [hx]; exact hk); ⟨k₁, h1, .head h0 s0 h2⟩⟩
  | goto l => exact absurd rfl (hng l)
  | ret => exact ⟨_, a₁, w₁, hq, .of_steps (.one h0 s0) harr⟩
  | panic ch => exact ⟨_, a₁, w₁, hq, .of_steps (.one h0 s0) harr⟩
  | outgrown => exact ⟨_, a₁, w₁, hq, .of_steps (.one h0 s0) harr⟩

section
variable {C : Cx}

theorem EndS.exit {nt : Nat} {ρ ρ' : Pl} {h h1 : Heap} {w w1 : World} {x : AX} {s' : St} {e : Exit} {a' : Act} {w' : World} (hp : Post C ρ h w ρ' h1 w1) (he : EndS C nt ρ' h1 w1 x s' e a' w') : EndS C nt ρ h w x s' e a' w' := by
  obtain ⟨ρ2, k1, k2, k3⟩ := he
  exact ⟨ρ2, k1, hp.trans k2, k3⟩

/-- the one call of a range over a function, and what is behind it -/
def RangeOK (C : Cx) (rc : Rec) : Prop := ∀ (nt fn n : Nat) (g : Operand) (ps : Array Tmp) (assign body : Code) (ac : ACode) (s s' : St) (x : AX) (ρ : Pl) (a : Act) (w : World) (Q : Exit → Act → World → Prop),
  codeA C.T nt fn (.rangeFunc g ps assign body) = some ac → evCode rc n ac s = some (x, s') → StR C nt ρ s a w → (∀ e a' w', EndS C nt ρ s.h w x s' e a' w' → Q e a' w') →
  (Code.rangeFunc g ps assign body).wpIn (wideAt none) 0 C.T.P Q a w

theorem code_sim {rc : Rec} {nt fn n : Nat} {ro : Option Nat} (hm : C.T.P.follows .mixedOrders = true) (hg : C.globOK) (hrc : RecOK C rc) (hrg : RangeOK C rc) :
    ∀ (c : Code) {ac : ACode} {s s' : St} {x : AX} {ρ : Pl} {a : Act} {w : World} {Q : Exit → Act → World → Prop}, codeA C.T nt fn c = some ac → (ro = none ∨ calm ac = true) → evCode rc n ac s = some (x, s') → StR C nt ρ s a w →
      (∀ e a' w', EndS C nt ρ s.h w x s' e a' w' → Q e a' w') → c.wpIn (wideAt ro) 0 C.T.P Q a w := by
  intro c
  induction c with
  | skip =>
    intro ac s s' x ρ a w Q hc _ hev hs hq
    simp only [codeA, Option.some.injEq] at hc; subst hc
    simp only [evCode, Option.some.injEq, Prod.mk.injEq] at hev; obtain ⟨rfl, rfl⟩ := hev
    exact wpIn_skip (hq _ _ _ ⟨ρ, trivial, Post.refl hs.rel, hs⟩)
  | label l =>
    intro ac s s' x ρ a w Q hc _ hev hs hq
    simp only [codeA, Option.some.injEq] at hc; subst hc
    simp only [evCode, Option.some.injEq, Prod.mk.injEq] at hev; obtain ⟨rfl, rfl⟩ := hev
    exact wpIn_label (hq _ _ _ ⟨ρ, trivial, Post.refl hs.rel, hs⟩)
  | goto l =>
    intro ac s s' x ρ a w Q hc _ hev hs hq
    simp only [codeA, reduceCtorEq] at hc
  | exit id =>
    intro ac s s' x ρ a w Q hc _ hev hs hq
    simp only [codeA, Option.some.injEq] at hc; subst hc
    simp only [evCode, Option.some.injEq, Prod.mk.injEq] at hev; obtain ⟨rfl, rfl⟩ := hev
    exact wpIn_exit (hq _ _ _ ⟨ρ, rfl, Post.refl hs.rel, hs⟩)
  | ret =>
    intro ac s s' x ρ a w Q hc _ hev hs hq
    simp only [codeA, Option.some.injEq] at hc; subst hc
    simp only [evCode, Option.some.injEq, Prod.mk.injEq] at hev; obtain ⟨rfl, rfl⟩ := hev
    exact wpIn_ret (hq _ _ _ ⟨ρ, trivial, Post.refl hs.rel, hs⟩)
  | refuse why =>
    intro ac s s' x ρ a w Q hc _ hev hs hq
    simp only [codeA, Option.some.injEq] at hc; subst hc
    simp only [evCode, reduceCtorEq] at hev
  | scope b ih =>
    intro ac s s' x ρ a w Q hc hro hev hs hq
    simp only [codeA, Option.map_eq_some_iff] at hc
    obtain ⟨ab, hab, rfl⟩ := hc
    simp only [evCode] at hev
    refine wpIn_scope' (ih hab (hro.imp (fun h => h) fun h => by simpa only [calm] using h) hev hs fun e a' w' he => ⟨fun l hl => ?_, hq _ _ _ he⟩)
    subst hl
    obtain ⟨_, k1, _⟩ := he
    cases x <;> simp only [ExitR] at k1
  | region id ops draw =>
    intro ac s s' x ρ a w Q hc hro hev hs hq
    cases draw with
    | false =>
      simp only [codeA, Option.map_eq_some_iff] at hc
      obtain ⟨os, hos, rfl⟩ := hc
      simp only [evCode] at hev
      refine wpIn_mono (region_sim hg hrc hos (hro.imp (fun h => h) fun h o ho => ?_) hev hs) hq
      simp only [calm, List.all_eq_true, Bool.not_eq_true'] at h
      exact h o ho
    | true =>
      simp only [codeA, Option.some.injEq] at hc
      cases hits : drawA C.T nt ops with
      | none => rw [hits] at hc; subst hc; simp only [drawOr, evCode, reduceCtorEq] at hev
      | some its =>
      rw [hits] at hc
      simp only [drawOr] at hc
      subst hc
      simp only [evCode] at hev
      have hro' : ro = none ∨ ∀ o rs, (o, rs) ∈ its → o.op.isDefer = false := hro.imp (fun h => h) fun h o rs ho => by
        simp only [calm, List.all_eq_true, Bool.not_eq_true'] at h
        exact h (o, rs) ho
      cases hd : evDraw rc its s with
      | none => rw [hd] at hev; cases hev
      | some r =>
        obtain ⟨x1, s1⟩ := r
        rw [hd] at hev
        have h1 := draw_sim (id := id) hm hg hrc hits hro' hd hs
        refine wpIn_mono h1 fun e a' w' he => hq e a' w' ?_
        cases x1 <;> simp only [Option.some.injEq, Prod.mk.injEq] at hev <;> obtain ⟨rfl, rfl⟩ := hev <;> exact he
  | seq c1 c2 ih1 ih2 =>
    intro ac s s' x ρ a w Q hc hro hev hs hq
    simp only [codeA] at hc
    split at hc <;> try (cases hc; done)
    rename_i a1 a2 h1 h2
    cases hc
    simp only [evCode] at hev
    cases hone : evCode rc n a1 s with
    | none => rw [hone] at hev; cases hev
    | some r =>
      obtain ⟨x1, s1⟩ := r
      rw [hone] at hev
      have hro1 : ro = none ∨ calm a1 = true := hro.imp (fun h => h) fun h => by simp only [calm, Bool.and_eq_true] at h; exact h.1
      have hro2 : ro = none ∨ calm a2 = true := hro.imp (fun h => h) fun h => by simp only [calm, Bool.and_eq_true] at h; exact h.2
      refine wpIn_seq (ih1 h1 hro1 hone hs fun e a' w' he => ?_)
      obtain ⟨ρ', k1, k2, k3⟩ := he
      cases x1 with
      | nrm =>
        cases e <;> simp only [ExitR] at k1
        exact ih2 h2 hro2 hev k3 fun e2 a2 w2 he2 => hq _ _ _ (EndS.exit k2 he2)
      | exit i => simp only [Option.some.injEq, Prod.mk.injEq] at hev; obtain ⟨rfl, rfl⟩ := hev; cases e <;> simp only [ExitR] at k1; exact hq _ _ _ ⟨ρ', k1, k2, k3⟩
      | ret => simp only [Option.some.injEq, Prod.mk.injEq] at hev; obtain ⟨rfl, rfl⟩ := hev; cases e <;> simp only [ExitR] at k1; exact hq _ _ _ ⟨ρ', trivial, k2, k3⟩
      | pan v => simp only [Option.some.injEq, Prod.mk.injEq] at hev; obtain ⟨rfl, rfl⟩ := hev; cases e <;> simp only [ExitR] at k1; exact hq _ _ _ ⟨ρ', k1, k2, k3⟩
  | cond g c1 c2 ih1 ih2 =>
    intro ac s s' x ρ a w Q hc hro hev hs hq
    simp only [codeA] at hc
    split at hc <;> try (cases hc; done)
    rename_i dg a1 a2 hgd h1 h2
    cases hc
    have hro1 : ro = none ∨ calm a1 = true := hro.imp (fun h => h) fun h => by simp only [calm, Bool.and_eq_true] at h; exact h.1
    have hro2 : ro = none ∨ calm a2 = true := hro.imp (fun h => h) fun h => by simp only [calm, Bool.and_eq_true] at h; exact h.2
    simp only [evCode] at hev
    have hv := opd_sim hg hs.tmps hgd
    split at hev <;> try (cases hev; done)
    · rename_i e; rw [e] at hv; simp only [VR] at hv
      exact wpIn_cond_true hv (ih1 h1 hro1 hev hs hq)
    · rename_i e; rw [e] at hv; simp only [VR] at hv
      exact wpIn_cond_false hv (ih2 h2 hro2 hev hs hq)
  | block id c ih =>
    intro ac s s' x ρ a w Q hc hro hev hs hq
    simp only [codeA, Option.map_eq_some_iff] at hc
    obtain ⟨ab, hab, rfl⟩ := hc
    simp only [evCode] at hev
    cases hone : evCode rc n ab s with
    | none => rw [hone] at hev; cases hev
    | some r =>
      obtain ⟨x1, s1⟩ := r
      rw [hone] at hev
      refine wpIn_block (ih hab (hro.imp (fun h => h) fun h => by simpa only [calm] using h) hone hs fun e a' w' he => ?_)
      obtain ⟨ρ', k1, k2, k3⟩ := he
      cases x1 with
      | nrm => simp only [Option.some.injEq, Prod.mk.injEq] at hev; obtain ⟨rfl, rfl⟩ := hev; cases e <;> simp only [ExitR] at k1; exact hq _ _ _ ⟨ρ', trivial, k2, k3⟩
      | exit i =>
        cases e <;> simp only [ExitR] at k1
        subst k1
        simp only [Exit.inBlock]
        simp only at hev
        cases hb : Nat.beq i id with
        | true =>
          rw [hb] at hev; simp only [cond_true, Option.some.injEq, Prod.mk.injEq] at hev
          obtain ⟨rfl, rfl⟩ := hev
          rw [if_pos (Nat.eq_of_beq_eq_true hb)]
          exact hq _ _ _ ⟨ρ', trivial, k2, k3⟩
        | false =>
          rw [hb] at hev; simp only [cond_false, Option.some.injEq, Prod.mk.injEq] at hev
          obtain ⟨rfl, rfl⟩ := hev
          rw [if_neg (fun e => by subst e; simp at hb)]
          exact hq _ _ _ ⟨ρ', rfl, k2, k3⟩
      | ret => simp only [Option.some.injEq, Prod.mk.injEq] at hev; obtain ⟨rfl, rfl⟩ := hev; cases e <;> simp only [ExitR] at k1; exact hq _ _ _ ⟨ρ', trivial, k2, k3⟩
      | pan v => simp only [Option.some.injEq, Prod.mk.injEq] at hev; obtain ⟨rfl, rfl⟩ := hev; cases e <;> simp only [ExitR] at k1; exact hq _ _ _ ⟨ρ', k1, k2, k3⟩
  | loop c ih =>
    intro ac s s' x ρ a w Q hc hro hev hs hq
    simp only [codeA, Option.map_eq_some_iff] at hc
    obtain ⟨ab, hab, rfl⟩ := hc
    simp only [evCode] at hev
    have hro' : ro = none ∨ calm ab = true := hro.imp (fun h => h) fun h => by simpa only [calm] using h
    have key : ∀ (m : Nat) (s : St) (ρ : Pl) (a : Act) (w : World), evLoop (evCode rc n ab) m s = some (x, s') → StR C nt ρ s a w → (∀ e a' w', EndS C nt ρ s.h w x s' e a' w' → Q e a' w') → Code.roundsIn (wideAt ro) 0 C.T.P c Q m a w := by
      intro m
      induction m with
      | zero => intro s ρ a w h; simp only [evLoop, reduceCtorEq] at h
      | succ m ihm =>
        intro s ρ a w h hs hq
        simp only [evLoop] at h
        rw [roundsIn_succ]
        cases hone : evCode rc n ab s with
        | none => rw [hone] at h; cases h
        | some r =>
          obtain ⟨x1, s1⟩ := r
          rw [hone] at h
          refine ih hab hro' hone hs fun e a' w' he => ?_
          obtain ⟨ρ', k1, k2, k3⟩ := he
          cases x1 with
          | nrm =>
            cases e <;> simp only [ExitR] at k1
            exact ihm s1 ρ' a' w' h k3 fun e2 a2 w2 he2 => hq _ _ _ (EndS.exit k2 he2)
          | exit i => simp only [Option.some.injEq, Prod.mk.injEq] at h; obtain ⟨rfl, rfl⟩ := h; cases e <;> simp only [ExitR] at k1; exact hq _ _ _ ⟨ρ', k1, k2, k3⟩
          | ret => simp only [Option.some.injEq, Prod.mk.injEq] at h; obtain ⟨rfl, rfl⟩ := h; cases e <;> simp only [ExitR] at k1; exact hq _ _ _ ⟨ρ', trivial, k2, k3⟩
          | pan v => simp only [Option.some.injEq, Prod.mk.injEq] at h; obtain ⟨rfl, rfl⟩ := h; cases e <;> simp only [ExitR] at k1; exact hq _ _ _ ⟨ρ', k1, k2, k3⟩
    exact wpIn_loop_rounds n (key n s ρ a w hev hs hq)
  | rangeFunc g ps assign body _ _ =>
    intro ac s s' x ρ a w Q hc hro hev hs hq
    rcases hro with rfl | hro
    · exact hrg nt fn n g ps assign body ac s s' x ρ a w Q hc hev hs hq
    · simp only [codeA] at hc
      split at hc <;> try (cases hc; done)
      split at hc <;> try (cases hc; done)
      cases hc
      simp only [calm, Bool.false_eq_true] at hro
end
end Go.AM

/- A RANGE OVER A FUNCTION. -/
namespace Go.AM
section
variable {C : Cx}

theorem run_endLoop {P : Program} {w : World} {l : Nat} {L : Loop} (h : w.heap[l]? = some (.loop L)) (hb : L.state ≠ .busy) : (Instr.endLoop l).run P w = .ok L.pending (w.putObj l (.loop { L with state := .exhausted })) := by
  unfold Instr.endLoop
  have : (L.state == .busy) = false := by cases hs : L.state <;> first | rfl | exact absurd hs hb
  simp only [Sem.run_bind, run_getLoop h, Result.andThen_ok, this, Bool.false_eq_true, if_false, run_setObj_loop _ h, Sem.run_pure]

theorem range_ok {rc : Rec} (hg : C.globOK) (hrc : RecOK C rc) : RangeOK C rc := by
  intro nt fn n g ps assign body ac s s' x ρ a w Q hc hev hs hq
  simp only [codeA] at hc
  split at hc <;> try (cases hc; done)
  rename_i df aa ab hf ha hb
  split at hc <;> try (cases hc; done)
  rename_i hok
  cases hc
  simp only [Bool.and_eq_true, List.all_eq_true, decide_eq_true_eq] at hok
  obtain ⟨⟨hps, hca⟩, hcb⟩ := hok
  simp only [evCode] at hev
  split at hev <;> try (cases hev; done)
  rename_i l h1 hal
  split at hev <;> try (cases hev; done)
  rename_i g' first cap hdf
  have hfv := opd_sim hg hs.tmps hf
  rw [hdf] at hfv
  simp only [VR] at hfv
  obtain ⟨xs, ys, e1, e2, e3⟩ := hfv
  refine wpIn_rangeFunc fun fn' _ => ?_
  -- the record is laid
  let L0 : Loop := { state := .ready, pending := none, fn := fn', tmps := a.tmps, params := ps, assign := assign, body := body, defers := w.heap.size }
  have hw1rel : Post C ρ s.h w ρ s.h (w.alloc (.deferred (some []))) := by
    have hr := hs.rel
    have hold : ∀ B, B < w.heap.size → (w.alloc (.deferred (some []))).heap[B]? = w.heap[B]? := fun B hB => by
      simp only [World.alloc, Array.getElem?_push]; rw [if_neg (by omega)]
    refine ⟨Pl.le_refl _, ⟨hr.room, fun b B m hb => ?_, hr.inj, hr.ancs, fun B d y hy => ?_, by simp; have := hr.base; omega, ⟨hr.io.1, hr.io.2.1, fun B hB => (hold B (by have := hr.base; omega)).trans (hr.io.2.2 B hB)⟩⟩, by simp, fun B hB _ => hold B hB, (fun b B m h1 h2 => by rw [h1] at h2; cases h2), Nat.le_refl _, fun _ _ h => ⟨h, rfl⟩⟩
    · obtain ⟨k1, k2, ao, o, k3, k4, k5⟩ := hr.dom b B m hb
      exact ⟨k1, k2, ao, o, k3, by rw [hold B (hr.blt hb)]; exact k4, k5⟩
    · obtain ⟨k1, k2⟩ := hr.low B d y hy
      exact ⟨k1, by rw [World.cell?_alloc_lt _ _ _ (show B < w.heap.size by have := hr.base; omega)]; exact k2⟩
  have hlr : OR C.T C.st ρ (.loop { st := .ready, pending := none, t := s.t, nt := nt, fn := fn, params := ps.toList, assign := aa, body := ab }) (.loop L0) 0 :=
    ⟨L0, rfl, ⟨rfl, rfl, hs.tmps, rfl, hs.room, hps, ha, hb, ⟨hca, hcb⟩⟩⟩
  obtain ⟨hp1, hl1⟩ := Post.alloc hw1rel.rel hal hlr (by intro a n h; cases h)
  simp only [World.size_alloc] at hp1 hl1
  have hp2 := hw1rel.trans hp1
  let w1 := (w.alloc (.deferred (some []))).alloc (.loop L0)
  have he : (Instr.enterLoop fn' a.tmps ps assign body (wideAt none).round).run C.T.P w = .ok (w.heap.size + 1, [{ target := .collected w.heap.size, args := #[] }]) w1 := run_enterLoop_outer fn' a.tmps ps assign body
  have hres : (resolve a.eval (rangeCall g (w.heap.size + 1)) 0).run C.T.P w1 = .ok { target := .fn (.func g') ys.toArray, args := xs.toArray ++ #[Value.func (.yield (w.heap.size + 1)) #[] #[]] } w1 := by
    unfold resolve
    simp only [e1, Deferred.ofValue, Sem.run_pure]
    simp [Act.eval]
  have hvy : VRs C.st (ρ.upd l (w.heap.size + 1, 0)) (first ++ [.yield l] ++ cap) (xs ++ [Value.func (.yield (w.heap.size + 1)) #[] #[]] ++ ys) := by
    refine ((VRs.mono hp2.le _ _ e2).append ?_).append (VRs.mono hp2.le _ _ e3)
    simp only [VRs, VR]
    exact ⟨_, _, rfl, ⟨_, _, hl1, rfl⟩, rfl⟩
  have hargs : (xs.toArray ++ #[Value.func (.yield (w.heap.size + 1)) #[] #[]] ++ ys.toArray : Array Value) = (xs ++ [Value.func (.yield (w.heap.size + 1)) #[] #[]] ++ ys).toArray := by apply Array.ext'; simp
  have who := fun r h2 (hr : rc (.fn g') (first ++ [.yield l] ++ cap) h1 = some (r, h2)) => hrc _ _ _ _ _ _ _ _ hr hp2.rel hvy trivial
  have hmark : ∀ x m, (ρ.upd l (w.heap.size + 1, 0)) x ≠ some (w.heap.size, m) := fun x m h => by
    simp only [Pl.upd] at h
    split at h
    · simp only [Option.some.injEq, Prod.mk.injEq] at h; omega
    · have := hs.rel.blt h; omega
  have hmk : w1.heap[w.heap.size]? = some (.deferred (some [])) := by
    show ((w.alloc (.deferred (some []))).alloc (.loop L0)).heap[w.heap.size]? = _
    simp only [World.alloc, Array.getElem?_push, Array.size_push]
    rw [if_neg (by omega)]; simp
  have hs1 : StR C nt (ρ.upd l (w.heap.size + 1, 0)) { t := s.t, d := .mark :: s.d, h := h1 } { a with defers := [{ target := .collected w.heap.size, args := #[] }] ++ a.defers } w1 :=
    ⟨hp2.rel, hs.tmps.mono hp2.le, hs.room, ⟨_, _, rfl, ⟨(DR.base hs.defers).1, fun d hd => (DR.base hs.defers).2 _ (Nat.le_refl _) d hd⟩, hmk, hmark, DR.mono hp2 hs.defers⟩⟩
  have fin : ∀ (R : Ending → World → Prop), WhoOK C (.fn g') (xs ++ [Value.func (.yield (w.heap.size + 1)) #[] #[]] ++ ys) (ρ.upd l (w.heap.size + 1, 0)) w1 R → (∀ e w2, R e w2 → rangePost (wideAt none) 0 C.T.P (w.heap.size + 1) Q { a with defers := [{ target := .collected w.heap.size, args := #[] }] ++ a.defers } e w2) →
      ∃ (l : Nat) (mark : List Deferred) (w₁ : World) (d : Deferred) (w₁' : World) (f : FuncId) (args : Array Value) (w₂ : World),
      (Instr.enterLoop fn' a.tmps ps assign body (wideAt none).round).run C.T.P w = .ok (l, mark) w₁ ∧
      (resolve a.eval (rangeCall g l) 0).run C.T.P w₁ = .ok d w₁' ∧
      (∀ f', Target.leads C.T.P w₁' d.target d.args = some f' → (wideAt none).fn f') ∧
      (invoke d.target d.args).run C.T.P w₁' = .ok (.enter f args) w₂ ∧
      ((wideAt none).depth.isSome = true → 1 ≤ 0) ∧
      CallsIn (wideAt none) (0 - 1) C.T.P f args w₂ (rangePost (wideAt none) 0 C.T.P l Q { a with defers := mark ++ a.defers }) := by
    intro R hw hR
    rcases hw with ⟨v, w', _, _, hno⟩ | ⟨k1, k2⟩
    · exact absurd (by simp) (hno (w.heap.size + 1))
    · refine ⟨_, _, w1, _, w1, g', _, w1, he, hres, fun _ _ => trivial, ?_, (fun h => by cases h), CallsIn.mono (show CallsIn (wideAt none) (0 - 1) C.T.P g' _ w1 _ from k2) hR⟩
      show (invoke (.fn (.func g') ys.toArray) (xs.toArray ++ #[Value.func (.yield (w.heap.size + 1)) #[] #[]])).run C.T.P w1 = _
      simp only [invoke]
      rw [hargs]; exact k1
  split at hev <;> try (cases hev; done)
  · -- it has returned
    rename_i v h2 hr
    refine fin _ (who _ _ hr) fun e w2 he2 => ?_
    obtain ⟨ρ2, q1, q2⟩ := he2
    cases e with
    | panicked ch => exact q2.elim
    | outgrown => exact q2.elim
    | returned y =>
      split at hev <;> try (cases hev; done)
      rename_i r hgl
      have hl2 := q1.le _ _ hl1
      obtain ⟨d1, d2, ao, oo, d3, d4, d5⟩ := q1.rel.dom l _ _ hl2
      rw [hgl] at d3; cases d3
      obtain ⟨L2, rfl, hLR⟩ := d5
      have hroom := q1.rel.room
      split at hev
      · cases hev
      rename_i hnb
      have hbz : L2.state ≠ .busy := by
        rw [hLR.state]
        cases hst : r.st <;> simp [LSt.of] <;> exact absurd hst hnb
      have hend := run_endLoop (P := C.T.P) d4 hbz
      have hput : Post C ρ2 h2 w2 ρ2 (h2.set l (.loop { r with st := .exhausted })) (w2.putObj (w.heap.size + 1) (.loop { L2 with state := .exhausted })) := by
        refine Post.put (ao := .loop r) (ao' := .loop { r with st := .exhausted }) q1.rel hl2 hgl rfl rfl (fun j hj hne => .inl ?_) ?_ rfl ⟨_, rfl, { hLR with state := rfl }⟩ ?_
        · rw [Heap.get_set (by omega) hj, if_neg (fun e => hne e.symm)]
        · rw [Heap.get_set (by omega) (by omega), if_pos rfl]
        · intro b2 m2 ty cs frz anc n o h1 h2 h3 h4
          cases h4
      have hst2 := (hs1.post q1).post hput
      have hpost := (hp2.trans q1).trans hput
      refine ⟨_, _, hend, ?_⟩
      have hLp := hLR.pending
      generalize w2.putObj (w.heap.size + 1) (.loop { L2 with state := .exhausted }) = W at hput hst2 hpost ⊢
      rw [hLp]
      split at hev
      · rename_i hpd
        simp only [Option.some.injEq, Prod.mk.injEq] at hev
        obtain ⟨rfl, rfl⟩ := hev
        rw [hpd]
        exact hq _ _ _ ⟨ρ2, trivial, hpost, hst2⟩
      · rename_i j hpd
        simp only [Option.some.injEq, Prod.mk.injEq] at hev
        obtain ⟨rfl, rfl⟩ := hev
        rw [hpd]
        cases j with
        | ret => exact wpIn_ret (hq _ _ _ ⟨ρ2, trivial, hpost, hst2⟩)
        | exit id => exact wpIn_exit (hq _ _ _ ⟨ρ2, rfl, hpost, hst2⟩)
  · -- it has panicked
    rename_i v h2 hr
    cases hev
    refine fin _ (who _ _ hr) fun e w2 he2 => ?_
    obtain ⟨ρ2, q1, q2⟩ := he2
    cases e with
    | returned y => exact q2.elim
    | outgrown => exact q2.elim
    | panicked ch =>
      obtain ⟨y, rfl, hv⟩ := q2
      exact hq _ _ _ ⟨ρ2, ⟨y, rfl, hv⟩, hp2.trans q1, hs1.post q1⟩
end
end Go.AM
