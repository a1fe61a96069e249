/- WHAT THE READER's FUNCTIONS DO, 5: lists of frames. -/
import Derived.Test.YtlpnnoojgbhfaaaGreatDoorGo
import Derived.Test.YtlpnnoojgbhfaaaGreatDoorSd
set_option linter.all false
namespace Go.AM
set_option maxRecDepth 10000
set_option linter.unusedSimpArgs false

theorem rdFr_lens {b r : List UInt8} {f : SF} (hb : b.length ≤ 9999999) (h : rdFr b = some (f, r)) : lens f ∧ r.length + 1 ≤ b.length := by
  have h0 := rdFr_len hb h
  have hp := frB_pos f
  refine ⟨?_, by omega⟩
  unfold rdFr at h
  obtain ⟨⟨n1, y1⟩, e1, h⟩ := obind h
  obtain ⟨⟨n2, y2⟩, e2, h⟩ := obind h
  obtain ⟨⟨n3, y3⟩, e3, h⟩ := obind h
  obtain ⟨⟨n4, y4⟩, e4, h⟩ := obind h
  obtain ⟨⟨n5, y5⟩, e5, h⟩ := obind h
  obtain ⟨⟨n6, y6⟩, e6, h⟩ := obind h
  obtain ⟨⟨n7, y7⟩, e7, h⟩ := obind h
  obtain ⟨⟨n8, y8⟩, e8, h⟩ := obind h
  simp only [Option.some.injEq, Prod.mk.injEq] at h
  obtain ⟨rfl, rfl⟩ := h
  obtain ⟨_, l1⟩ := rdNum_len e1
  obtain ⟨_, l2⟩ := rdNum_len e2
  simp only at l1 l2
  obtain ⟨_, l3, _⟩ := rdVal_len e3 (by simp only; omega)
  simp only at l3
  obtain ⟨_, l4, _⟩ := rdVal_len e4 (by simp only; omega)
  simp only at l4
  obtain ⟨_, l5, _, m5⟩ := rdVals_len e5 (by simp only; omega)
  simp only at l5
  obtain ⟨_, l6, _, m6⟩ := rdVals_len e6 (by simp only; omega)
  exact ⟨m5, m6⟩

/-- what has been read of n lists -/
def LsSoFar (n i : Nat) (y0 y : List UInt8) (last : List SF) (out : List (List SF)) : Prop := rdListsGo n [] y0 = (rdListsGo (n - i) last y).bind fun q => some (out ++ q.1, q.2)

theorem LsSoFar.start {n : Nat} {y0 : List UInt8} : LsSoFar n 0 y0 y0 [] [] := by
  unfold LsSoFar
  cases rdListsGo (n - 0) [] y0 with
  | none => rfl
  | some q => rfl
theorem LsSoFar.step {n i : Nat} {y0 y z : List UInt8} {last fs : List SF} {out : List (List SF)} (hs : LsSoFar n i y0 y last out) (hi : i < n) (h : rdList last y = some (fs, z)) : LsSoFar n (i + 1) y0 z fs (out ++ [fs]) := by
  unfold LsSoFar at hs ⊢
  have e : n - i = (n - (i + 1)) + 1 := by omega
  rw [hs, e]
  simp only [rdListsGo, h, Option.bind_some]
  cases rdListsGo (n - (i + 1)) fs z with
  | none => rfl
  | some q => simp
theorem LsSoFar.fail {n i : Nat} {y0 y : List UInt8} {last : List SF} {out : List (List SF)} (hs : LsSoFar n i y0 y last out) (hi : i < n) (h : rdList last y = none) : rdListsGo n [] y0 = none := by
  unfold LsSoFar at hs
  have e : n - i = (n - (i + 1)) + 1 := by omega
  rw [hs, e]
  simp only [rdListsGo, h, Option.bind_none]
theorem LsSoFar.done {n : Nat} {y0 y : List UInt8} {last : List SF} {out : List (List SF)} (hs : LsSoFar n n y0 y last out) : rdListsGo n [] y0 = some (out, y) := by
  unfold LsSoFar at hs
  rw [hs, Nat.sub_self]; simp [rdListsGo]

theorem hs3up {k2 k3 : Heap} {r : Nat} (hs : Same (fun j => j < k2.next) k2 k3) : Same (fun j => j ≠ r) k2 k3 := ⟨hs.next, fun j _ hj => hs.get j hj hj⟩

section
variable {h h' : Heap} {r : Nat} {b : List UInt8} {t : Tm}

set_option maxHeartbeats 16000000 in
theorem lists_ok (hr : Rs h r b) (hb : b.length ≤ 1048576) : CallA progK (.fn 23) [.ptr r 0] h fun x h' => Same (fun j => j ≠ r) h h' ∧
    ((∃ (qs : List LP) (y : List UInt8) (v : AV), rdLists b = some (plainL qs, y) ∧ x = .ret v ∧ RdLs h' (fun j => h.next ≤ j) v qs ∧ Rs h' r y) ∨ (rdLists b = none ∧ x = .pan unreadV)) := by
  refine CallA_body (by rfl) ?_
  have hrn := hr.lt
  (repeat (first | ((first | with_reducible apply Ev_op_of | with_reducible apply EvDn_op_of); (case hp => rfl); (case hv => exact dfl2 Bool.not_true)) | refine adm Bool.not_true ?_))
  refine Ev_call (by exact cal Bool.not_true) (length_ok hr (by omega)) ?_ (by
    rintro v h1 ⟨hs1, ⟨_, _, _, ex, _⟩ | ⟨e1, ex⟩⟩
    · cases ex
    · exact ⟨rfl, hs1, .inr ⟨by unfold rdLists; simp only [e1, Option.bind_none], ex⟩⟩)
  rintro v k0 ⟨hs0, ⟨n, y0, e0, ex, r0⟩ | ⟨_, ex⟩⟩
  rotate_left
  · cases ex
  cases ex
  have l0 := rdLen_len e0
  have hq : rdLists b = rdListsGo n [] y0 := by unfold rdLists; simp only [e0, Option.bind_some]
  (repeat (first | ((first | with_reducible apply Ev_op_of | with_reducible apply EvDn_op_of); (case hp => rfl); (case hv => exact dfl2 Bool.not_true)) | refine adm Bool.not_true ?_))
  refine Ev_loopH (fun t k => ∃ (i : Nat) (ov lv : AV) (qs : List LP) (lp : List FP) (y : List UInt8), i ≤ n ∧ getT t 0 = .ptr r 0 ∧ getT t 3 = ov ∧ getT t 4 = lv ∧ getT t 9 = .int .i64 (n : Nat) ∧ getT t 10 = .int .i64 i ∧ Rs k r y ∧ lp.length + y.length ≤ 1048576 ∧ qs.length = i ∧
      Own k (fun j => h.next ≤ j) 32 1 ov i (qs.flatMap lsC) ∧ (∀ q ∈ qs, RdFrs k (fun j => h.next ≤ j) q.1 q.2) ∧ RdFrs k (fun j => h.next ≤ j) lv lp ∧ (∀ p ∈ lp, lens p.1 ∧ notP p.2.2) ∧ Same (fun j => j ≠ r) h k ∧ LsSoFar n i y0 y (plainF lp) (plainL qs))
    (fun t _ => cntA n (getT t 10)) ⟨0, .nilslice, .nilslice, [], [], y0, Nat.zero_le _, by exact look Bool.not_true, by exact look Bool.not_true, by exact look Bool.not_true, by exact look Bool.not_true, (by exact look Int.natCast_zero), r0, by simp; omega, rfl, Own.nil, (fun q hq => by cases hq), ⟨⟨reads0 rfl (by simp), trivial⟩, fun p hp => by cases hp⟩, (fun p hp => by cases hp), hs0, LsSoFar.start⟩ ?_
  rintro t k ⟨i, ov, lv, qs, lp, y, hi, g0, g3, g4, g9, g10, rk, hy, ho, hown, hqs, hlv, hlp, hsk, hso⟩
  by_cases hlt : i < n
  · have hd := lt_dec hlt
    have hinc := inc_nat hlt (by omega)
    have lpl : (plainF lp).length = lp.length := by simp [plainF]
    (repeat (first | ((first | with_reducible apply Ev_op_of | with_reducible apply EvDn_op_of); (case hp => rfl); (case hv => exact dfl2 (an g0 (an g3 (an g4 (an g9 (an g10 hd))))))) | refine adm (an g0 (an g3 (an g4 (an g9 (an g10 hd))))) ?_))
    refine Ev_call (by exact cal g0) (number_ok rk (by omega)) ?_ (by
      rintro v h1 ⟨hs1, ⟨_, _, _, ex, _⟩ | ⟨ee, ex⟩⟩
      · cases ex
      · exact EvX_pan.2 ⟨rfl, hsk.trans hs1, .inr ⟨by rw [hq]; exact hso.fail hlt (by unfold rdList; rw [ee]; rfl), ex⟩⟩)
    rintro v k1 ⟨hs1, ⟨m, y1, e1, ex, r1⟩ | ⟨_, ex⟩⟩
    rotate_left
    · cases ex
    cases ex
    obtain ⟨w1, l1⟩ := rdNum_len e1
    have S1 := hsk.trans hs1
    (repeat (first | ((first | with_reducible apply Ev_op_of | with_reducible apply EvDn_op_of); (case hp => rfl); (case hv => exact dfl2 g0)) | refine adm g0 ?_))
    refine Ev_call (by exact cal g0) (number_ok r1 (by omega)) ?_ (by
      rintro v h1 ⟨hs1, ⟨_, _, _, ex, _⟩ | ⟨ee, ex⟩⟩
      · cases ex
      · exact EvX_pan.2 ⟨rfl, S1.trans hs1, .inr ⟨by rw [hq]; exact hso.fail hlt (by unfold rdList; rw [e1, Option.bind_some]; simp only [ee, Option.bind_none]), ex⟩⟩)
    rintro v k2 ⟨hs2, ⟨c, y2, e2, ex, r2⟩ | ⟨_, ex⟩⟩
    rotate_left
    · cases ex
    cases ex
    obtain ⟨w2, l2⟩ := rdNum_len e2
    have S2 := S1.trans hs2
    have hs12 : Same (fun j => j ≠ r) k k2 := hs1.trans hs2
    have x2 := S2.next
    have x12 := hs12.next
    have up : Keep (fun j => h.next ≤ j) k k2 := (hs12.sub fun j hj => by omega).keep
    have hlv2 := hlv.keep up
    have hown2 : Own k2 (fun j => h.next ≤ j) 32 1 ov i (qs.flatMap lsC) := hown.same (hs12.sub fun j hj => by omega)
    have rlv : Reads k2 18 lv lp.length (lp.flatMap frC) := Sl.rd hlv2.sl
    obtain ⟨tr, fz, vb, hz, hf, hsb⟩ := r2.ex
    have rvb := hsb.rd
    have hlist : rdList (plainF lp) y = if headOK m c lp.length y2.length then (rdN rdFr (m - c).toNat y2).bind fun q => some ((plainF lp).take c.toNat ++ q.1, q.2) else none := by
      unfold rdList; simp only [e1, e2, Option.bind_some, lpl]
    by_cases c1 : 0 ≤ c
    rotate_left
    · have d1 : decide ((0 : Int) ≤ c) = false := by simpa using c1
      (repeat (first | ((first | with_reducible apply Ev_op_of | with_reducible apply EvDn_op_of); (case hp => rfl); (case hv => first | ((with_reducible refine ev_geq ?_ ?_) <;> exact look d1) | exact dfl2 d1)) | refine adm d1 ?_))
      refine Ev_call (by exact cal Bool.not_true) need_f (by rintro v h' ⟨e, _⟩; cases e) ?_
      rintro v h' ⟨e, eh⟩
      have eh' := eh.symm
      subst eh'
      exact EvX_pan.2 ⟨rfl, S2, .inr ⟨by rw [hq]; exact hso.fail hlt (by rw [hlist, if_neg (fun hh => c1 hh.1)]), e⟩⟩
    have d1 : decide ((0 : Int) ≤ c) = true := by simpa using c1
    by_cases c2 : c ≤ m
    rotate_left
    · have d2 : decide (c ≤ m) = false := by simpa using c2
      (repeat (first | ((first | with_reducible apply Ev_op_of | with_reducible apply EvDn_op_of); (case hp => rfl); (case hv => first | ((with_reducible refine ev_geq ?_ ?_) <;> exact look (an d1 d2)) | exact dfl2 (an d1 d2))) | refine adm (an d1 d2) ?_))
      refine Ev_call (by exact cal Bool.not_true) need_f (by rintro v h' ⟨e, _⟩; cases e) ?_
      rintro v h' ⟨e, eh⟩
      have eh' := eh.symm
      subst eh'
      exact EvX_pan.2 ⟨rfl, S2, .inr ⟨by rw [hq]; exact hso.fail hlt (by rw [hlist, if_neg (fun hh => c2 hh.2.1)]), e⟩⟩
    have d2 : decide (c ≤ m) = true := by simpa using c2
    by_cases c3 : c ≤ (lp.length : Int)
    rotate_left
    · have d3 : decide (c ≤ (lp.length : Int)) = false := by simpa using c3
      (repeat (first | ((first | with_reducible apply Ev_op_of | with_reducible apply EvDn_op_of); (case hp => rfl); (case hv => first | ((with_reducible refine ev_geq ?_ ?_) <;> exact look (an g4 (an d1 (an d2 d3)))) | ((with_reducible refine ev_len ?_ rlv) <;> exact look (an g4 (an d1 (an d2 d3)))) | exact dfl2 (an g4 (an d1 (an d2 d3))))) | refine adm (an g4 (an d1 (an d2 d3))) ?_))
      refine Ev_call (by exact cal Bool.not_true) need_f (by rintro v h' ⟨e, _⟩; cases e) ?_
      rintro v h' ⟨e, eh⟩
      have eh' := eh.symm
      subst eh'
      exact EvX_pan.2 ⟨rfl, S2, .inr ⟨by rw [hq]; exact hso.fail hlt (by rw [hlist, if_neg (fun hh => c3 hh.2.2.1)]), e⟩⟩
    have d3 : decide (c ≤ (lp.length : Int)) = true := by simpa using c3
    have hsub : wrapA .i64 (m - c) = m - c := wrap_i64 (by unfold isI64 at w1 w2; omega) (by unfold isI64 at w1 w2; omega)
    by_cases c4 : m - c ≤ (y2.length : Int)
    rotate_left
    · have d4 : decide (m - c ≤ (y2.length : Int)) = false := by simpa using c4
      (repeat (first | ((first | with_reducible apply Ev_op_of | with_reducible apply EvDn_op_of); (case hp => rfl); (case hv => first | ((with_reducible refine ev_geq ?_ ?_) <;> exact look (an g0 (an g4 (an d1 (an d2 (an d3 (an d4 hsub))))))) | ((with_reducible refine ev_len ?_ rlv) <;> exact look (an g0 (an g4 (an d1 (an d2 (an d3 (an d4 hsub))))))) | ((with_reducible refine ev_loadP (c := r) (o := 0) hf rfl ?_) <;> exact look (an g0 (an g4 (an d1 (an d2 (an d3 (an d4 hsub))))))) | ((with_reducible refine ev_len ?_ rvb) <;> exact look (an g0 (an g4 (an d1 (an d2 (an d3 (an d4 hsub))))))) | exact dfl2 (an g0 (an g4 (an d1 (an d2 (an d3 (an d4 hsub)))))))) | refine adm (an g0 (an g4 (an d1 (an d2 (an d3 (an d4 hsub)))))) ?_))
      refine Ev_call (by exact cal Bool.not_true) need_f (by rintro v h' ⟨e, _⟩; cases e) ?_
      rintro v h' ⟨e, eh⟩
      have eh' := eh.symm
      subst eh'
      exact EvX_pan.2 ⟨rfl, S2, .inr ⟨by rw [hq]; exact hso.fail hlt (by rw [hlist, if_neg (fun hh => c4 hh.2.2.2)]), e⟩⟩
    have d4 : decide (m - c ≤ (y2.length : Int)) = true := by simpa using c4
    rw [if_pos ⟨c1, c2, c3, c4⟩] at hlist
    (repeat (first | ((first | with_reducible apply Ev_op_of | with_reducible apply EvDn_op_of); (case hp => rfl); (case hv => first | ((with_reducible refine ev_geq ?_ ?_) <;> exact look (an g0 (an g4 (an d1 (an d2 (an d3 (an d4 hsub))))))) | ((with_reducible refine ev_len ?_ rlv) <;> exact look (an g0 (an g4 (an d1 (an d2 (an d3 (an d4 hsub))))))) | ((with_reducible refine ev_loadP (c := r) (o := 0) hf rfl ?_) <;> exact look (an g0 (an g4 (an d1 (an d2 (an d3 (an d4 hsub))))))) | ((with_reducible refine ev_len ?_ rvb) <;> exact look (an g0 (an g4 (an d1 (an d2 (an d3 (an d4 hsub))))))) | exact dfl2 (an g0 (an g4 (an d1 (an d2 (an d3 (an d4 hsub)))))))) | refine adm (an g0 (an g4 (an d1 (an d2 (an d3 (an d4 hsub)))))) ?_))
    refine Ev_call (by exact cal Bool.not_true) need_t ?_ (by rintro v h' ⟨e, _⟩; cases e)
    rintro x1 h' ⟨e, eh⟩
    cases e
    have eh' := eh.symm
    subst eh'
    obtain ⟨cn, rfl⟩ : ∃ cn : Nat, c = cn := ⟨c.toNat, by omega⟩
    obtain ⟨cnt, hcnt⟩ : ∃ cnt : Nat, m - (cn : Int) = cnt := ⟨(m - cn).toNat, by omega⟩
    have hsub2 : wrapA .i64 (m - (cn : Int)) = (cnt : Int) := by rw [hsub, hcnt]
    rw [hcnt] at hlist c4
    simp only [Int.toNat_natCast] at hlist
    obtain ⟨v43, hv43, cut43⟩ := hlv2.sl.hiF (m := cn) (by omega)
    rw [flat_take frC_len] at hv43
    have ltk : (lp.take cn).length = cn := by rw [List.length_take]; omega
    have f43 : RdFrs k2 (fun j => h.next ≤ j) v43 (lp.take cn) := ⟨by rw [ltk]; exact hv43, fun p hp => hlv2.ok p (List.mem_of_mem_take hp)⟩
    (repeat (first | ((first | with_reducible apply Ev_op_of | with_reducible apply EvDn_op_of); (case hp => rfl); (case hv => first | ((with_reducible refine cut43 _ _ _ .i64 ?_ ?_) <;> exact look (an g0 g4)) | exact dfl2 (an g0 g4))) | refine adm (an g0 g4) ?_))
    refine Ev_call (by exact cal Bool.not_true) (copied_ok f43 (by omega) (fun p hp => hlp p (List.mem_of_mem_take hp))) ?_ (by rintro v h' ⟨_, _, _, e, _⟩; cases e)
    rintro x k3 ⟨hs3, fv0, fps0, ex, hpl0, hof0⟩
    cases ex
    have hrk2 := r2.lt
    have x3 := hs3.next
    have lf0 : fps0.length = cn := by
      have := congrArg List.length hpl0
      simp only [plainF, List.length_map, ltk] at this; exact this
    have hpl1 : plainF fps0 = (plainF lp).take cn := by rw [hpl0]; simp [plainF, List.map_take]
    have hl0 : ∀ p ∈ fps0, lens p.1 := fun p hp => by
      have : p.1 ∈ plainF fps0 := List.mem_map.2 ⟨p, hp, rfl⟩
      rw [hpl1] at this
      obtain ⟨p', hp', e⟩ := List.mem_map.1 (List.mem_of_mem_take this)
      rw [← e]; exact (hlp p' hp').1
    have hcy : cnt ≤ y2.length := by omega
    (repeat (first | ((first | with_reducible apply Ev_op_of | with_reducible apply EvDn_op_of); (case hp => rfl); (case hv => exact dfl2 (an g0 (an g4 (an g3 (an g9 (an g10 hsub2))))))) | refine adm (an g0 (an g4 (an g3 (an g9 (an g10 hsub2))))) ?_))
    refine Ev_loopH (fun t k' => ∃ (j : Nat) (fv : AV) (fps : List FP) (y' : List UInt8) (outF : List SF), j ≤ cnt ∧ getT t 0 = .ptr r 0 ∧ getT t 3 = ov ∧ getT t 7 = fv ∧ getT t 9 = .int .i64 (n : Nat) ∧ getT t 10 = .int .i64 i ∧ getT t 47 = .int .i64 (cnt : Nat) ∧ getT t 48 = .int .i64 j ∧ Rs k' r y' ∧ fps.length + y'.length ≤ 1048576 ∧
        OwnFrs k' (fun j => k2.next ≤ j) fv fps ∧ Same (fun j => j ≠ r) k2 k' ∧ RdSoFar rdFr cnt j y2 y' outF ∧ plainF fps = (plainF lp).take cn ++ outF ∧ (∀ p ∈ fps, lens p.1))
      (fun t _ => cntA cnt (getT t 48)) ⟨0, _, fps0, y2, [], Nat.zero_le _, by exact look g0, by exact look g3, by exact look Bool.not_true, by exact look g9, by exact look g10, by exact look Bool.not_true, (by exact look Int.natCast_zero), r2.same (hs3.sub fun j hj => by omega), by omega, hof0, (hs3up hs3), RdSoFar.start, by simpa using hpl1, hl0⟩ ?_
    rintro t' k' ⟨j, fv, fps, y', outF, hj, g0', g3', g7', g9', g10', g47', g48', rk', hy', hof, hsk', hso', hpl', hll'⟩
    have xk' := hsk'.next
    by_cases hjt : j < cnt
    · have hd' := lt_dec hjt
      have hinc' := inc_nat hjt (by omega)
      (repeat (first | ((first | with_reducible apply Ev_op_of | with_reducible apply EvDn_op_of); (case hp => rfl); (case hv => exact dfl2 (an g0' (an g3' (an g7' (an g9' (an g10' (an g47' (an g48' hd'))))))))) | refine adm (an g0' (an g3' (an g7' (an g9' (an g10' (an g47' (an g48' hd'))))))) ?_))
      refine Ev_call (by exact cal g0') (rdFrame_ok rk' (by omega)) ?_ (by
        rintro v h1 ⟨hs1, ⟨_, _, _, ex, _⟩ | ⟨ee, ex⟩⟩
        · cases ex
        · exact EvX_pan.2 (EvX_pan.2 ⟨rfl, (S2.trans hsk').trans hs1, .inr ⟨by rw [hq]; exact hso.fail hlt (by rw [hlist, hso'.fail hjt ee]; rfl), ex⟩⟩))
      rintro v k4 ⟨hs4, ⟨p, z, e4, ex, ⟨op, np⟩, r4⟩ | ⟨_, ex⟩⟩
      rotate_left
      · cases ex
      cases ex
      obtain ⟨lnp, lz⟩ := rdFr_lens (by omega) e4
      have x4 := hs4.next
      have hrl := rk'.lt
      have of4 : OwnFrs k4 (fun j => k2.next ≤ j) fv fps := by
        have hs4' : Same (fun j => k2.next ≤ j) k' k4 := hs4.sub fun j hj => by omega
        exact ⟨hof.own.same hs4', fun q hq => ⟨(hof.ok q hq).1.keep hs4'.keep, (hof.ok q hq).2⟩⟩
      have op4 : FrOK k4 (fun j => k2.next ≤ j) p := op.sub fun j hj _ => by omega
      obtain ⟨v5, k5, ap5, of5, sm5, _⟩ := of4.append op4 np (fun j hj => by omega) (by omega)
      have s5 : Same (fun j => j < k2.next) k4 k5 := sm5 _ (fun j hj hj2 => by omega)
      (repeat (first | ((first | with_reducible apply Ev_op_of | with_reducible apply EvDn_op_of); (case hp => rfl); (case hv => first | ((with_reducible refine ev_buildFr op4 ?_) <;> exact look (an g0' (an g3' (an g7' (an g48' hinc'))))) | ((with_reducible refine ap5 _ _ _ ?_ ?_) <;> exact look (an g0' (an g3' (an g7' (an g48' hinc'))))) | exact dfl2 (an g0' (an g3' (an g7' (an g48' hinc')))))) | refine adm (an g0' (an g3' (an g7' (an g48' hinc')))) ?_))
      refine ⟨rfl, ⟨j + 1, v5, fps ++ [p], z, outF ++ [p.1], hjt, by exact look g0', by exact look g3', by exact look Bool.not_true, by exact look g9', by exact look g10', by exact look g47', by exact look Bool.not_true, r4.same (s5.sub fun j hj => by omega), by simp; omega, of5, (hsk'.trans hs4).trans' s5, hso'.step hjt e4, ?_, ?_⟩, by simp (decide := true) only [putD, getT_setT, if_true, g48', cntA_int, if_false]; exact Nat.sub_lt_sub_left hjt (Nat.lt_succ_self j)⟩
      · have : plainF (fps ++ [p]) = plainF fps ++ [p.1] := by simp [plainF]
        rw [this, hpl', List.append_assoc]
      · intro q hq
        rcases List.mem_append.1 hq with h1 | h1
        · exact hll' q h1
        · rw [List.mem_singleton] at h1; rw [h1]; exact lnp
    · have hd' := nlt_dec hjt
      obtain rfl : j = cnt := by omega
      have hrd : rdList (plainF lp) y = some (plainF fps, y') := by rw [hlist, hso'.done, Option.bind_some, hpl']
      have hown' : Own k' (fun j => h.next ≤ j) 32 1 ov i (qs.flatMap lsC) :=
        (Own.same (S := fun j => h.next ≤ j ∧ j ≠ r) (hown2.sub fun j hj _ => ⟨hj, by omega⟩) (hsk'.sub fun j hj => hj.2)).sub fun j hj _ => hj.1
      have cfv := cell_of_rd (Sl.rd hof.own.sl)
      have cfv2 := isCell_cells cfv
      have bl : ∀ {t : Tm} {a : Opd}, a.ev t = fv → evOp (.buildSlice 32 [.nilslice] 1 1 [(0, a)]) t k' = some (.slice k'.next 0 1 (some 1) 1, k'.push (.cells 32 [fv] true 1 [])) := fun ha => by
        have := ev_build1 (h := k') (ty := 32) (e := 1) (zs := [.nilslice]) ha rfl (by rw [cfv2]; rfl) (by rw [cfv2]; simp [allCells, cfv])
        rwa [cfv2] at this
      have own2 : Own (k'.push (.cells 32 [fv] true 1 [])) (fun j => h.next ≤ j) 32 1 ov i (qs.flatMap lsC) := hown'.same Same.push
      have sl2 : Sl (k'.push (.cells 32 [fv] true 1 [])) (fun j => h.next ≤ j) 1 (.slice k'.next 0 1 (some 1) 1) 1 [fv] := Sl.fresh (by omega) rfl (by intro k hk; cases hk; omega)
      obtain ⟨v6, k6, ap6, own6, kp6, sm6⟩ := own2.appendF (bytes := 24) (zero := [.nilslice]) (u := .slice k'.next 0 1 (some 1) 1) (m := 1) rfl sl2.source (by simp [allCells, cfv]) rfl (by omega) (by omega) (by unfold roomA; omega) (by rw [push_next]; omega)
      have s6 : Same (fun j => j < h.next) k' k6 := Same.push.trans (sm6 _ (fun j hj hj2 => by omega))
      have kk : Keep (fun j => h.next ≤ j) k' k6 := Keep.trans (Same.push.keep) (kp6 _)
      have kq : Keep (fun j => h.next ≤ j) k k6 := ((up.trans (hsk'.sub fun j hj => by omega).keep)).trans kk
      have hof6 : RdFrs k6 (fun j => h.next ≤ j) fv fps := (hof.rd.sub fun j hj _ => by omega).keep kk
      (repeat (first | ((first | with_reducible apply Ev_op_of | with_reducible apply EvDn_op_of); (case hp => rfl); (case hv => first | ((with_reducible refine bl ?_) <;> exact look (an g0' (an g3' (an g7' (an g9' (an g10' (an g47' (an g48' (an hd' hinc))))))))) | ((with_reducible refine ap6 _ _ _ ?_ ?_) <;> exact look (an g0' (an g3' (an g7' (an g9' (an g10' (an g47' (an g48' (an hd' hinc))))))))) | exact dfl2 (an g0' (an g3' (an g7' (an g9' (an g10' (an g47' (an g48' (an hd' hinc)))))))))) | refine adm (an g0' (an g3' (an g7' (an g9' (an g10' (an g47' (an g48' (an hd' hinc)))))))) ?_))
      refine ⟨rfl, ⟨i + 1, v6, fv, qs ++ [(fv, fps)], fps, y', hlt, by exact look g0', by exact look Bool.not_true, by exact look Bool.not_true, by exact look g9', by exact look Bool.not_true, rk'.same (s6.sub fun j hj => by omega), hy', by simp [ho], by simpa [lsC] using own6, ?_, hof6, fun p hp => ⟨hll' p hp, (hof.ok p hp).2⟩, (S2.trans hsk').trans' s6, ?_⟩, by simp (decide := true) only [putD, getT_setT, if_true, g10, cntA_int, if_false]; exact Nat.sub_lt_sub_left hlt (Nat.lt_succ_self i)⟩
      · intro q hq
        rcases List.mem_append.1 hq with h1 | h1
        · exact (hqs q h1).keep kq
        · rw [List.mem_singleton] at h1; rw [h1]; exact hof6
      · have : plainL (qs ++ [(fv, fps)]) = plainL qs ++ [plainF fps] := by simp [plainL]
        rw [this]
        exact hso.step hlt hrd
  · have hd := nlt_dec hlt
    obtain rfl : i = n := by omega
    (repeat (first | ((first | with_reducible apply Ev_op_of | with_reducible apply EvDn_op_of); (case hp => rfl); (case hv => exact dfl2 (an g0 (an g3 (an g4 (an g9 (an g10 hd))))))) | refine adm (an g0 (an g3 (an g4 (an g9 (an g10 hd))))) ?_))
    (refine ⟨rfl, _, by exact ret Bool.not_true, ?_⟩)
    refine ⟨hsk, .inl ⟨qs, y, ov, by rw [hq]; exact hso.done, rfl, ⟨?_, hqs⟩, rk⟩⟩
    rw [ho]; exact hown.sl
end
end Go.AM

/- WHAT Decode AND At DO. -/
namespace Go.AM
set_option maxRecDepth 10000
set_option linter.unusedSimpArgs false

theorem rdLists_lens {b r : List UInt8} {l : List (List SF)} (hb : b.length ≤ 1048576) (h : rdLists b = some (l, r)) : ∀ fs ∈ l, ∀ f ∈ fs, lens f := by
  have key : ∀ {n : Nat} {last : List SF} {b : List UInt8} {l : List (List SF)} {r : List UInt8}, b.length ≤ 9999999 → (∀ f ∈ last, lens f) → rdListsGo n last b = some (l, r) → ∀ fs ∈ l, ∀ f ∈ fs, lens f := by
    intro n
    induction n with
    | zero =>
      intro last b l r _ _ h fs hf
      simp only [rdListsGo, Option.some.injEq, Prod.mk.injEq] at h
      obtain ⟨rfl, rfl⟩ := h
      cases hf
    | succ n ih =>
      intro last b l r hb hl h fs hf
      simp only [rdListsGo] at h
      obtain ⟨⟨g, y⟩, e1, h⟩ := obind h
      obtain ⟨⟨l', r'⟩, e2, h⟩ := obind h
      simp only [Option.some.injEq, Prod.mk.injEq] at h
      obtain ⟨rfl, rfl⟩ := h
      unfold rdList at e1
      obtain ⟨⟨n1, y1⟩, e3, e1⟩ := obind e1
      obtain ⟨⟨n2, y2⟩, e4, e1⟩ := obind e1
      simp only at e1
      split at e1 <;> try (cases e1; done)
      obtain ⟨⟨q, r2⟩, e5, e1⟩ := obind e1
      simp only [Option.some.injEq, Prod.mk.injEq] at e1
      obtain ⟨rfl, rfl⟩ := e1
      obtain ⟨_, l1⟩ := rdNum_len e3
      obtain ⟨_, l2⟩ := rdNum_len e4
      simp only at l1 l2
      obtain ⟨b1, b2, _, _⟩ := rdN_len (g := frB) (W := fun f => f.wf ∧ lens f) (N := 9999999) (fun b x r hb hx => ⟨⟨(rdFr_len hb hx).1, (rdFr_lens hb hx).1⟩, (rdFr_len hb hx).2⟩) (by omega) e5
      have hg : ∀ f ∈ last.take n2.toNat ++ q, lens f := fun f hf => by
        rcases List.mem_append.1 hf with h1 | h1
        · exact hl f (List.mem_of_mem_take h1)
        · exact (b1 f h1).2
      rcases List.mem_cons.1 hf with e | e
      · rw [e]; exact hg
      · exact ih (by simp only at b2 ⊢; omega) hg e2 fs e
  unfold rdLists at h
  obtain ⟨⟨n, y⟩, e1, h⟩ := obind h
  exact key (by have := (rdLen_len e1).1; simp only; omega) (fun f hf => by cases hf) h

section
variable {h h' : Heap} {S S' : Nat → Prop} {b x : List UInt8} {t : Tm}

theorem RdLs.keepB {v : AV} {qs : List LP} (hp : RdLs h S v qs) (hs : Same (fun j => j < h.next) h h') : RdLs h' S v qs := ⟨hp.sl.keepB hs, fun q hm => (hp.ok q hm).keepB hs⟩

theorem bytesEqual_ok {w v : AV} (h1 : Sl h S 1 w x.length (x.map byteA)) (h2 : Sl h S' 1 v b.length (b.map byteA)) : CallA progK (.fn 25) [w, v] h fun r h' => r = .ret (.bool (decide (x = b))) ∧ h' = h := by
  refine CallA_body (by rfl) ?_
  have hb : beqB x b = decide (x = b) := by rw [beqB_eq]; rw [Bool.eq_iff_iff]; simp
  (repeat (first | ((first | with_reducible apply Ev_op_of | with_reducible apply EvDn_op_of); (case hp => rfl); (case hv => first | ((with_reducible refine ev_b2s h1 ?_) <;> exact look hb) | ((with_reducible refine ev_b2s h2 ?_) <;> exact look hb) | exact dfl2 hb)) | refine adm hb ?_))
  (refine ⟨rfl, _, by exact ret Bool.not_true, ?_⟩)
  exact ⟨rfl, rfl⟩

/-- what Decode's deferred call leaves behind a panic -/
def afterPan (h : Heap) (c2 c3 : Nat) : Heap := ((h.push (.cells 81 [] true 1 [])).set c2 (.cells 22 [.nilslice] true 1 [])).set c3 (.cells 26 [.int .i64 160] true 1 [])

theorem dec1_pan {c2 c3 : Nat} {l0 e0 : AV} (f2 : h.find c2 = some (.cells 22 [l0] true 1 [])) (f3 : h.find c3 = some (.cells 26 [e0] true 1 [])) (hne : c2 ≠ c3) (rc : Rec) (n : Nat) :
    evDeferred progK rc n 22 [.ptr c2 0, .ptr c3 0] (.pan unreadV) h = some (.ret (.tuple []), .recd unreadV, afterPan h c2 c3) := by
  have g2 := find_push_old (o := .cells 81 [] true 1 []) f2
  have g3 : ((h.push (.cells 81 [] true 1 [])).set c2 (.cells 22 [.nilslice] true 1 [])).find c3 = some (.cells 26 [e0] true 1 []) := by
    rw [find_set_ne g2 hne]; exact find_push_old f3
  have st2 : ∀ {t : Tm} {a x : Opd}, a.ev t = .ptr c2 0 → x.ev t = .nilslice → evOp (.store 1 a x) t (h.push (.cells 81 [] true 1 [])) = some (undefA, (h.push (.cells 81 [] true 1 [])).set c2 (.cells 22 [.nilslice] true 1 [])) := fun ha hx => ev_storeP g2 ha hx rfl rfl (by simp) (by omega)
  have st3 : ∀ {t : Tm} {a x : Opd}, a.ev t = .ptr c3 0 → x.ev t = .int .i64 160 → evOp (.store 1 a x) t ((h.push (.cells 81 [] true 1 [])).set c2 (.cells 22 [.nilslice] true 1 [])) = some (undefA, afterPan h c2 c3) := fun ha hx => ev_storeP g3 ha hx rfl rfl (by simp) (by omega)
  have hp : progK 22 = some af22 := rfl
  unfold evDeferred
  rw [hp]
  unfold af22
  have he : eqA (.iface true oksT) unreadV .niliface = some false := rfl
  have hset : ∀ (t : Tm) (i j : Nat) (v : AV), getT (setT t i v) j = if i = j then v else getT t j := getT_setT
  have o1 : ∀ (t : Tm) (k : Heap), getT t 5 = unreadV → evOp (.bin .eql (.iface true oksT) (.t 5) (.k .niliface)) t k = some (.bool false, k) := fun t k h5 => by
    have : binA .eql (.iface true oksT) unreadV .niliface = some (.bool false) := rfl
    simp only [evOp, Opd.ev, h5, this]
  have o2 : ∀ (t : Tm) (k : Heap), getT t 5 = unreadV → evOp (.assertT 81 (.agg []) true (.t 5)) t k = some (.tuple [.agg [], .bool true], k) := fun t k h5 => by
    simp only [evOp, Opd.ev, h5]; rfl
  have o3 : ∀ (t : Tm) (k : Heap), getT t 8 = .tuple [.agg [], .bool true] → evOp (.extract (.t 8) 1) t k = some (.bool true, k) := fun t k h5 => by
    simp only [evOp, Opd.ev, h5]; rfl
  have o4 : ∀ (t : Tm) (k : Heap), getT t 8 = .tuple [.agg [], .bool true] → evOp (.extract (.t 8) 0) t k = some (.agg [], k) := fun t k h5 => by
    simp only [evOp, Opd.ev, h5]; rfl
  have o5 : ∀ (t : Tm), evOp (.alloc 81 []) t h = some (.ptr h.next 0, h.push (.cells 81 [] true 1 [])) := fun t => rfl
  have o6 : ∀ (t : Tm) (k : Heap), getT t 3 = .ptr h.next 0 → getT t 10 = .agg [] → evOp (.store 0 (.t 3) (.t 10)) t k = some (undefA, k) := fun t k h3 h10 => by
    simp only [evOp, Opd.ev, h3, h10]; rfl
  have o7 : ∀ (t : Tm), getT t 0 = .ptr c2 0 → evOp (.store 1 (.t 0) (.k .nilslice)) t (h.push (.cells 81 [] true 1 [])) = some (undefA, (h.push (.cells 81 [] true 1 [])).set c2 (.cells 22 [.nilslice] true 1 [])) := fun t h0 => st2 h0 rfl
  have o8 : ∀ (t : Tm), getT t 1 = .ptr c3 0 → evOp (.store 1 (.t 1) (.k (.int .i64 160))) t ((h.push (.cells 81 [] true 1 [])).set c2 (.cells 22 [.nilslice] true 1 [])) = some (undefA, afterPan h c2 c3) := fun t h0 => st3 h0 rfl
  simp (decide := true) only [evCodeS, evOpersS, evOperS, wantedA, putD, getT_setT, Opd.ev, argsT, ofL, if_true, if_false, Nat.zero_add, Nat.reduceAdd, reduceIte, o1, o2, o3, o4, o5, o6, o7, o8, List.isEmpty_nil, resultsA, Option.map_some, resultV]

theorem dec1_ret (rc : Rec) (n : Nat) (h : Heap) (c2 c3 : Nat) : evDeferred progK rc n 22 [.ptr c2 0, .ptr c3 0] .ret h = some (.ret (.tuple []), .ret, h) := by
  rfl

theorem resC {t : Tm} {a c ty : Nat} {v : AV} (hg : getT t a = .ptr c 0) (hf : h.find c = some (.cells ty [v] true 1 [])) : resultA t h (.cell a false 1) = some v := by
  simp only [resultA, hg, readAt, hf]
  rfl

theorem leaves_pan {P : ARes → Heap → Prop} {c2 c3 : Nat} {l0 e0 : AV} (f2 : h.find c2 = some (.cells 22 [l0] true 1 [])) (f3 : h.find c3 = some (.cells 26 [e0] true 1 [])) (hne : c2 ≠ c3) (g2 : getT t 2 = .ptr c2 0) (g3 : getT t 3 = .ptr c3 0)
    (hP : P (.ret (.tuple [.nilslice, .int .i64 160])) (afterPan h c2 c3)) : Leaves progK [.cell 2 false 1, .cell 3 false 1] t [.call 22 [.ptr c2 0, .ptr c3 0]] (.pan unreadV) h P := by
  have k2 : (afterPan h c2 c3).find c2 = some (.cells 22 [.nilslice] true 1 []) := by
    have e2 := find_push_old (o := .cells 81 [] true 1 []) f2
    have e3 : ((h.push (.cells 81 [] true 1 [])).set c2 (.cells 22 [.nilslice] true 1 [])).find c3 = some (.cells 26 [e0] true 1 []) := by
      rw [find_set_ne e2 hne]; exact find_push_old f3
    unfold afterPan
    rw [find_set_ne e3 (fun e => hne e.symm)]
    exact find_set_same e2
  have k3 : (afterPan h c2 c3).find c3 = some (.cells 26 [.int .i64 160] true 1 []) := by
    have e2 := find_push_old (o := .cells 81 [] true 1 []) f2
    have e3 : ((h.push (.cells 81 [] true 1 [])).set c2 (.cells 22 [.nilslice] true 1 [])).find c3 = some (.cells 26 [e0] true 1 []) := by
      rw [find_set_ne e2 hne]; exact find_push_old f3
    exact find_set_same e3
  refine ⟨0, .ret (.tuple [.nilslice, .int .i64 160]), afterPan h c2 c3, ?_, hP⟩
  simp only [leaveA, dec1_pan f2 f3 hne, resultsA, resC g2 k2, resC g3 k3, Option.map_some, resultV]

theorem leaves_ret {P : ARes → Heap → Prop} {c2 c3 : Nat} {l0 e0 : AV} (f2 : h.find c2 = some (.cells 22 [l0] true 1 [])) (f3 : h.find c3 = some (.cells 26 [e0] true 1 [])) (g2 : getT t 2 = .ptr c2 0) (g3 : getT t 3 = .ptr c3 0)
    (hP : P (.ret (.tuple [l0, e0])) h) : Leaves progK [.cell 2 false 1, .cell 3 false 1] t [.call 22 [.ptr c2 0, .ptr c3 0]] .ret h P := by
  refine ⟨0, .ret (.tuple [l0, e0]), h, ?_, hP⟩
  simp only [leaveA, dec1_ret, resultsA, resC g2 f2, resC g3 f3, Option.map_some, resultV]

def DecR (h : Heap) (b : List UInt8) (x : ARes) (h' : Heap) : Prop :=
  match dec b with
  | some m => ∃ v' qs, plainL qs = m ∧ x = .ret (.tuple [v', .int .i64 0]) ∧ RdLs h' (fun j => h.next ≤ j) v' qs
  | none => x = .ret (.tuple [.nilslice, .int .i64 160])

set_option maxHeartbeats 8000000 in
theorem decode_ok {v : AV} (hs : Sl h S 1 v b.length (b.map byteA)) (hb : b.length ≤ 1048576) : CallA progK (.fn 7) [v] h fun x h' => DecR h b x h' ∧ Same (fun j => j < h.next) h h' := by
  refine CallA_leave (by rfl) ?_
  obtain ⟨c2, hc2⟩ : ∃ c2, c2 = h.next := ⟨_, rfl⟩
  obtain ⟨c3, hc3⟩ : ∃ c3, c3 = h.next + 1 := ⟨_, rfl⟩
  obtain ⟨r, hr⟩ : ∃ r, r = h.next + 2 := ⟨_, rfl⟩
  have cv := cell_of_rd hs.rd
  have cv2 := isCell_cells cv
  obtain ⟨k0, hk0⟩ : ∃ k0, k0 = (h.push (.cells 22 [.nilslice] true 1 [])).push (.cells 26 [.int .i64 0] true 1 []) := ⟨_, rfl⟩
  obtain ⟨k1, hk1⟩ : ∃ k1, k1 = k0.push (.cells 84 [v] true 1 []) := ⟨_, rfl⟩
  have n0 : k0.next = h.next + 2 := by rw [hk0]; rfl
  have n1 : k1.next = h.next + 3 := by rw [hk1, push_next, n0]
  have s0 : Same (fun j => j < h.next) h k0 := by rw [hk0]; exact Same.push.trans Same.push
  have s1 : Same (fun j => j < h.next) h k1 := by rw [hk1]; exact s0.trans Same.push
  have f20 : k0.find c2 = some (.cells 22 [.nilslice] true 1 []) := by rw [hk0, hc2]; exact find_push_old find_push_new
  have f30 : k0.find c3 = some (.cells 26 [.int .i64 0] true 1 []) := by rw [hk0, hc3]; exact find_push_new (h := h.push (.cells 22 [.nilslice] true 1 []))
  have f21 : k1.find c2 = some (.cells 22 [.nilslice] true 1 []) := by rw [hk1]; exact find_push_old f20
  have f31 : k1.find c3 = some (.cells 26 [.int .i64 0] true 1 []) := by rw [hk1]; exact find_push_old f30
  have hv1 : Sl k1 (fun j => j < r) 1 v b.length (b.map byteA) := ((hs.sub (S' := fun j => j < h.next) fun j _ hj => hj).keep s1.keep).sub fun j hj _ => by omega
  have rs1 : Rs k1 r b := ⟨84, 1, v, Nat.le_refl _, by rw [hk1, hr, ← n0]; exact find_push_new, hv1⟩
  have al2 : ∀ {t : Tm}, evOp (.alloc 22 [.nilslice]) t h = some (.ptr c2 0, h.push (.cells 22 [.nilslice] true 1 [])) := by intro t; rw [hc2]; rfl
  have al3 : ∀ {t : Tm}, evOp (.alloc 26 [(.int .i64 0)]) t (h.push (.cells 22 [.nilslice] true 1 [])) = some (.ptr c3 0, k0) := by intro t; rw [hc3, hk0]; rfl
  have bu : ∀ {t : Tm} {x : Opd}, x.ev t = v → evOp (.build [.nilslice] [(0, 1, x)]) t k0 = some (.agg [v], k0) := fun hx => by
    have := fill_one (zs := [AV.nilslice]) (v := v) (e := 1) rfl (by rw [cv2]; rfl) (by rw [cv2]; simp [allCells, cv])
    simp only [evOp, evParts, hx, this, cv2]
  have bx : ∀ {t : Tm} {x : Opd}, x.ev t = .agg [v] → evOp (.box 84 x) t k0 = some (.ptr r 0, k1) := fun hx => by
    have : allCells [v] = true := by simp [allCells, cv]
    simp only [evOp, hx, AV.cells, this, if_true]
    rw [hr, ← n0, hk1]; rfl
  (repeat (first | ((first | with_reducible apply Ev_op_of | with_reducible apply EvDn_op_of); (case hp => rfl); (case hv => first | ((with_reducible refine al2) <;> exact look Bool.not_true) | ((with_reducible refine al3) <;> exact look Bool.not_true) | ((with_reducible refine bu ?_) <;> exact look Bool.not_true) | ((with_reducible refine bx ?_) <;> exact look Bool.not_true) | exact dfl2 Bool.not_true)) | refine adm Bool.not_true ?_))
  refine Ev_abs (fun t => getT t 0 = v ∧ getT t 2 = .ptr c2 0 ∧ getT t 3 = .ptr c3 0 ∧ getT t 11 = .ptr r 0) ⟨by exact look Bool.not_true, by exact look Bool.not_true, by exact look Bool.not_true, by exact look Bool.not_true⟩ ?_
  rintro t ⟨g0, g2, g3, g11⟩
  have pan : ∀ {t : Tm} {k : Heap} {l0 e0 : AV}, k.find c2 = some (.cells 22 [l0] true 1 []) → k.find c3 = some (.cells 26 [e0] true 1 []) → getT t 2 = .ptr c2 0 → getT t 3 = .ptr c3 0 → Same (fun j => j < h.next) h k → dec b = none →
      Leaves progK [.cell 2 false 1, .cell 3 false 1] t [.call 22 [.ptr c2 0, .ptr c3 0]] (.pan unreadV) k fun x h' => DecR h b x h' ∧ Same (fun j => j < h.next) h h' := fun {t k l0 e0} f2 f3 g2 g3 sk hd => by
    refine leaves_pan f2 f3 (by omega) g2 g3 ⟨by unfold DecR; rw [hd], ?_⟩
    have hx := sk.next
    have e2 := find_push_old (o := .cells 81 [] true 1 []) f2
    have e3 : ((k.push (.cells 81 [] true 1 [])).set c2 (.cells 22 [.nilslice] true 1 [])).find c3 = some (.cells 26 [e0] true 1 []) := by
      rw [find_set_ne e2 (by omega)]; exact find_push_old f3
    exact sk.trans (Same.push.trans ((Same.set e2 fun j hj => by omega).trans (Same.set e3 fun j hj => by omega)))
  refine Ev_call (by exact cal g11) (lists_ok rs1 hb) ?_ (by
    rintro p k ⟨sk, ⟨_, _, _, _, ex, _⟩ | ⟨ee, ex⟩⟩
    · cases ex
    · cases ex
      exact pan (sk.find (by omega) f21) (sk.find (by omega) f31) g2 g3 (s1.trans (sk.sub fun j hj => by omega)) (by unfold dec; rw [ee]))
  rintro p k2 ⟨sk2, ⟨qs, y, w, e1, ex, hqs, rk2⟩ | ⟨_, ex⟩⟩
  rotate_left
  · cases ex
  cases ex
  have x2 := sk2.next
  have f22 := sk2.find (by omega) f21
  have f32 := sk2.find (by omega) f31
  have cw := cell_of_rd (Sl.rd hqs.sl)
  obtain ⟨k3, hk3⟩ : ∃ k3, k3 = k2.set c2 (.cells 22 [p] true 1 []) := ⟨_, rfl⟩
  have st3 : ∀ {t : Tm} {a x : Opd}, a.ev t = .ptr c2 0 → x.ev t = p → evOp (.store 1 a x) t k2 = some (undefA, k3) := fun ha hx => by rw [hk3]; exact ev_storeP f22 ha hx (isCell_cells cw) cw (by simp) (by omega)
  have f23 : k3.find c2 = some (.cells 22 [p] true 1 []) := by rw [hk3]; exact find_set_same f22
  have t3 : Same (fun j => j ≠ c2) k2 k3 := by rw [hk3]; exact Same.set f22 (fun j hj => hj)
  have f33 := t3.find (j := c3) (by omega) f32
  have x3 := t3.next
  have hqs3 : RdLs k3 (fun j => k1.next ≤ j) p qs := hqs.keep (t3.sub fun j hj => by omega).keep
  have hM : EncOK (plainL qs) := by
    obtain ⟨a1, a2⟩ := rdLists_len hb e1
    have a3 := rdLists_lens hb e1
    exact ⟨fun fs hfs f hf => ⟨(a1 fs hfs).1 f hf, a3 fs hfs f hf⟩, by omega, fun fs hfs => (a1 fs hfs).2⟩
  have S3 : Same (fun j => j < h.next) h k3 := (s1.trans (sk2.sub fun j hj => by omega)).trans (t3.sub fun j hj => by omega)
  (repeat (first | ((first | with_reducible apply Ev_op_of | with_reducible apply EvDn_op_of); (case hp => rfl); (case hv => first | ((with_reducible refine st3 ?_ ?_) <;> exact look (an g2 g3)) | ((with_reducible refine ev_loadP (c := c2) (o := 0) f23 rfl ?_) <;> exact look (an g2 g3)) | exact dfl2 (an g2 g3))) | refine adm (an g2 g3) ?_))
  refine Ev_call (by exact cal Bool.not_true) (encode_ok hqs3 hM) ?_ (by
    rintro q k ⟨e, _⟩
    unfold EncR at e
    split at e
    · obtain ⟨_, e, _⟩ := e; cases e
    · cases e)
  rintro q k4 ⟨he, sk4⟩
  have x4 := sk4.next
  have f24 := sk4.find (j := c2) (by omega) f23
  have f34 := sk4.find (j := c3) (by omega) f33
  have S4 : Same (fun j => j < h.next) h k4 := S3.trans (sk4.sub fun j hj => by omega)
  have hqs4 : RdLs k4 (fun j => k1.next ≤ j) p qs := hqs3.keepB sk4
  have hv4 : Sl k4 (fun j => j < h.next) 1 v b.length (b.map byteA) := (hs.sub (S' := fun j => j < h.next) fun j _ hj => hj).keep S4.keep
  unfold EncR at he
  cases henc : enc (plainL qs) with
  | none =>
    rw [henc] at he
    cases he
    have hdec : dec b = none := by unfold dec; rw [e1]; simp only; rw [if_neg (by rw [henc]; simp)]
    have e2 : ((2 : Int) == 0) = false := rfl
    (repeat (first | ((first | with_reducible apply Ev_op_of | with_reducible apply EvDn_op_of); (case hp => rfl); (case hv => exact dfl2 e2)) | refine adm e2 ?_))
    refine Ev_call (by exact cal Bool.not_true) need_f (by rintro v h' ⟨e, _⟩; cases e) ?_
    rintro u k ⟨e, eh⟩
    have eh' := eh.symm
    subst eh'
    cases e
    exact pan f24 f34 (by exact look g2) (by exact look g3) S4 hdec
  | some x =>
    rw [henc] at he
    obtain ⟨w2, e, hw2⟩ := he
    cases e
    have e2 : ((0 : Int) == 0) = true := rfl
    (repeat (first | ((first | with_reducible apply Ev_op_of | with_reducible apply EvDn_op_of); (case hp => rfl); (case hv => exact dfl2 (an e2 g0))) | refine adm (an e2 g0) ?_))
    refine Ev_call (by exact cal g0) (bytesEqual_ok hw2 hv4) ?_ (by rintro v h' ⟨e, _⟩; cases e)
    rintro u k ⟨e, eh⟩
    have eh' := eh.symm
    subst eh'
    cases e
    by_cases hxb : x = b
    · have hd : decide (x = b) = true := by simpa using hxb
      have hdec : dec b = some (plainL qs) := by unfold dec; rw [e1]; simp only; rw [if_pos (by rw [henc, hxb])]
      (repeat (first | ((first | with_reducible apply Ev_op_of | with_reducible apply EvDn_op_of); (case hp => rfl); (case hv => exact dfl2 (an e2 hd))) | refine adm (an e2 hd) ?_))
      refine Ev_call (by exact cal Bool.not_true) need_t ?_ (by rintro v h' ⟨e, _⟩; cases e)
      rintro u k ⟨e, eh⟩
      have eh' := eh.symm
      subst eh'
      cases e
      obtain ⟨k5, hk5⟩ : ∃ k5, k5 = k4.set c2 (.cells 22 [p] true 1 []) := ⟨_, rfl⟩
      have st5 : ∀ {t : Tm} {a x : Opd}, a.ev t = .ptr c2 0 → x.ev t = p → evOp (.store 1 a x) t k4 = some (undefA, k5) := fun ha hx => by rw [hk5]; exact ev_storeP f24 ha hx (isCell_cells cw) cw (by simp) (by omega)
      have f25 : k5.find c2 = some (.cells 22 [p] true 1 []) := by rw [hk5]; exact find_set_same f24
      have t5 : Same (fun j => j ≠ c2) k4 k5 := by rw [hk5]; exact Same.set f24 (fun j hj => hj)
      have f35 := t5.find (j := c3) (by omega) f34
      obtain ⟨k6, hk6⟩ : ∃ k6, k6 = k5.set c3 (.cells 26 [.int .i64 0] true 1 []) := ⟨_, rfl⟩
      have st6 : ∀ {t : Tm} {a x : Opd}, a.ev t = .ptr c3 0 → x.ev t = .int .i64 0 → evOp (.store 1 a x) t k5 = some (undefA, k6) := fun ha hx => by rw [hk6]; exact ev_storeP f35 ha hx rfl rfl (by simp) (by omega)
      have f36 : k6.find c3 = some (.cells 26 [.int .i64 0] true 1 []) := by rw [hk6]; exact find_set_same f35
      have t6 : Same (fun j => j ≠ c3) k5 k6 := by rw [hk6]; exact Same.set f35 (fun j hj => hj)
      have f26 := t6.find (j := c2) (by omega) f25
      (repeat (first | ((first | with_reducible apply Ev_op_of | with_reducible apply EvDn_op_of); (case hp => rfl); (case hv => first | ((with_reducible refine ev_loadP (c := c2) (o := 0) f24 rfl ?_) <;> exact look (an g2 g3)) | ((with_reducible refine st5 ?_ ?_) <;> exact look (an g2 g3)) | ((with_reducible refine st6 ?_ ?_) <;> exact look (an g2 g3)) | exact dfl2 (an g2 g3))) | refine adm (an g2 g3) ?_))
      refine leaves_ret f26 f36 (by exact look g2) (by exact look g3) ⟨?_, S4.trans ((t5.sub fun j hj => by omega).trans (t6.sub fun j hj => by omega))⟩
      unfold DecR
      rw [hdec]
      exact ⟨p, qs, rfl, rfl, ((hqs4.keep (t5.sub fun j hj => by omega).keep).keep (t6.sub fun j hj => by omega).keep).sub fun j hj _ => by omega⟩
    · have hd : decide (x = b) = false := by simpa using hxb
      have hdec : dec b = none := by unfold dec; rw [e1]; simp only; rw [if_neg (by rw [henc]; simpa using hxb)]
      (repeat (first | ((first | with_reducible apply Ev_op_of | with_reducible apply EvDn_op_of); (case hp => rfl); (case hv => exact dfl2 (an e2 hd))) | refine adm (an e2 hd) ?_))
      refine Ev_call (by exact cal Bool.not_true) need_f (by rintro v h' ⟨e, _⟩; cases e) ?_
      rintro u k ⟨e, eh⟩
      have eh' := eh.symm
      subst eh'
      cases e
      exact pan f24 f34 (by exact look g2) (by exact look g3) S4 hdec
end
end Go.AM

/- WHAT THE LAW's OWN FUNCTIONS DO. -/
namespace Go.AM
set_option maxRecDepth 10000
set_option linter.unusedSimpArgs false

section
variable {h h' : Heap} {S S' : Nat → Prop} {b x : List UInt8} {t : Tm}

theorem Sl.loadAt {α : Type} {f : α → List AV} {e o : Nat} {a v : AV} {p : α} (hat : ∀ o m, o + m ≤ e → atA h (addA a o) m = cut (f p) o m) (ho : o + 1 ≤ e) (hc : cut (f p) o 1 = some [v]) : loadA h false 1 (addA a o) = some v := by
  simp only [loadA, hat o 1 ho, hc]; rfl

theorem size_ok {v : AV} {ps : List FP} (hr : RdFrs h S v ps) (hl : ps.length ≤ 9999999) (hp : ∀ p ∈ ps, lens p.1) : CallA progK (.fn 17) [v] h fun r h' => (∃ N : Nat, r = .ret (.int .i64 N) ∧ N ≤ 300000000000000) ∧ h' = h := by
  refine CallA_body (by rfl) ?_
  have rv : Reads h 18 v ps.length (ps.flatMap frC) := Sl.rd hr.sl
  (repeat (first | ((first | with_reducible apply Ev_op_of | with_reducible apply EvDn_op_of); (case hp => rfl); (case hv => first | ((with_reducible refine ev_len ?_ rv) <;> exact look Bool.not_true) | exact dfl2 Bool.not_true)) | refine adm Bool.not_true ?_))
  refine Ev_loopT (fun t => ∃ i N : Nat, i ≤ ps.length ∧ getT t 0 = v ∧ getT t 3 = .int .i64 N ∧ getT t 4 = .int .i64 i ∧ N ≤ ps.length + i * 19999998)
    (fun t => cntA ps.length (getT t 4)) ⟨0, ps.length, Nat.zero_le _, by exact look Bool.not_true, by exact look Bool.not_true, (by exact look Int.natCast_zero), by omega⟩ ?_
  rintro t ⟨i, N, hi, g0, g3, g4, hN⟩
  by_cases hlt : i < ps.length
  · have hd := lt_dec hlt
    have hinc := inc_nat hlt (by omega)
    obtain ⟨a, ha, hix, hld, hat⟩ := Sl.at_ (f := frC) (l := ps) hr.sl frC_len hlt
    obtain ⟨p, hpe⟩ : ∃ p, p = ps[i] := ⟨_, rfl⟩
    rw [← hpe] at hat
    have mp : p ∈ ps := hpe ▸ List.getElem_mem hlt
    have op := hr.ok p mp
    have lp := hp p mp
    unfold lens at lp
    have h14 : loadA h false 1 (addA a 14) = some p.2.1 := Sl.loadAt hat (by omega) rfl
    have h15 : loadA h false 1 (addA a 15) = some p.2.2 := Sl.loadAt hat (by omega) rfl
    have r1 : Reads h 6 p.2.1 p.1.vars.length _ := Sl.rd op.1
    have r2 : Reads h 6 p.2.2 p.1.stack.length _ := Sl.rd op.2
    have w1 : wrapA .i64 ((p.1.vars.length : Int) + (p.1.stack.length : Int)) = ((p.1.vars.length + p.1.stack.length : Nat) : Int) := by rw [wrap_i64 (by omega) (by omega)]; omega
    have w2 : wrapA .i64 ((N : Int) + ((p.1.vars.length + p.1.stack.length : Nat) : Int)) = ((N + (p.1.vars.length + p.1.stack.length) : Nat) : Int) := by rw [wrap_i64 (by omega) (by omega)]; omega
    (repeat (first | ((first | with_reducible apply Ev_op_of | with_reducible apply EvDn_op_of); (case hp => rfl); (case hv => first | ((with_reducible refine ev_len ?_ rv) <;> exact look (an g0 (an g3 (an g4 (an hd (an hinc (an w1 w2))))))) | ((with_reducible refine hix _ _ _ .i64 ?_ ?_) <;> exact look (an g0 (an g3 (an g4 (an hd (an hinc (an w1 w2))))))) | ((with_reducible refine ev_field (a := a) ?_ ha) <;> exact look (an g0 (an g3 (an g4 (an hd (an hinc (an w1 w2))))))) | ((with_reducible refine ev_load ?_ h14) <;> exact look (an g0 (an g3 (an g4 (an hd (an hinc (an w1 w2))))))) | ((with_reducible refine ev_load ?_ h15) <;> exact look (an g0 (an g3 (an g4 (an hd (an hinc (an w1 w2))))))) | ((with_reducible refine ev_len ?_ r1) <;> exact look (an g0 (an g3 (an g4 (an hd (an hinc (an w1 w2))))))) | ((with_reducible refine ev_len ?_ r2) <;> exact look (an g0 (an g3 (an g4 (an hd (an hinc (an w1 w2))))))) | exact dfl2 (an g0 (an g3 (an g4 (an hd (an hinc (an w1 w2)))))))) | refine adm (an g0 (an g3 (an g4 (an hd (an hinc (an w1 w2)))))) ?_))
    exact ⟨rfl, rfl, ⟨i + 1, _, hlt, by exact look g0, by exact look Bool.not_true, by exact look Bool.not_true, by omega⟩, by simp (decide := true) only [putD, getT_setT, if_true, g4, cntA_int, if_false]; exact Nat.sub_lt_sub_left hlt (Nat.lt_succ_self i)⟩
  · have hd := nlt_dec hlt
    (repeat (first | ((first | with_reducible apply Ev_op_of | with_reducible apply EvDn_op_of); (case hp => rfl); (case hv => first | ((with_reducible refine ev_len ?_ rv) <;> exact look (an g0 (an g3 (an g4 hd)))) | exact dfl2 (an g0 (an g3 (an g4 hd))))) | refine adm (an g0 (an g3 (an g4 hd))) ?_))
    (refine ⟨rfl, _, by exact ret Bool.not_true, ?_⟩)
    exact ⟨⟨N, rfl, by omega⟩, rfl⟩

theorem weight_ok {v : AV} {qs : List LP} (hr : RdLs h S v qs) (hl : qs.length ≤ 9999999) (hq : ∀ q ∈ qs, q.2.length ≤ 9999999 ∧ ∀ p ∈ q.2, lens p.1) : CallA progK (.fn 5) [v] h fun r h' => (∃ W : Nat, r = .ret (.int .i64 W) ∧ qs.length ≤ W) ∧ h' = h := by
  refine CallA_body (by rfl) ?_
  have rv : Reads h 1 v qs.length (qs.flatMap lsC) := Sl.rd hr.sl
  (repeat (first | ((first | with_reducible apply Ev_op_of | with_reducible apply EvDn_op_of); (case hp => rfl); (case hv => first | ((with_reducible refine ev_len ?_ rv) <;> exact look Bool.not_true) | exact dfl2 Bool.not_true)) | refine adm Bool.not_true ?_))
  refine Ev_loopT (fun t => ∃ i W : Nat, i ≤ qs.length ∧ getT t 0 = v ∧ getT t 3 = .int .i64 W ∧ getT t 4 = .int .i64 i ∧ qs.length ≤ W)
    (fun t => cntA qs.length (getT t 4)) ⟨0, qs.length, Nat.zero_le _, by exact look Bool.not_true, by exact look Bool.not_true, (by exact look Int.natCast_zero), Nat.le_refl _⟩ ?_
  rintro t ⟨i, W, hi, g0, g3, g4, hW⟩
  by_cases hlt : i < qs.length
  · have hd := lt_dec hlt
    by_cases h3 : W ≤ 3000
    · have hd3 : decide ((W : Int) ≤ 3000) = true := by simp; omega
      have hinc := inc_nat hlt (by omega)
      obtain ⟨a, ha, hix, _, hat⟩ := Sl.at_ (f := lsC) (l := qs) hr.sl lsC_len hlt
      obtain ⟨q, hqe⟩ : ∃ q, q = qs[i] := ⟨_, rfl⟩
      rw [← hqe] at hat
      have hld : loadA h false 1 a = some q.1 := Sl.load1 hat
      have mq : q ∈ qs := hqe ▸ List.getElem_mem hlt
      (repeat (first | ((first | with_reducible apply Ev_op_of | with_reducible apply EvDn_op_of); (case hp => rfl); (case hv => first | ((with_reducible refine ev_len ?_ rv) <;> exact look (an g0 (an g3 (an g4 (an hd hd3))))) | ((with_reducible refine hix _ _ _ .i64 ?_ ?_) <;> exact look (an g0 (an g3 (an g4 (an hd hd3))))) | ((with_reducible refine ev_load ?_ hld) <;> exact look (an g0 (an g3 (an g4 (an hd hd3))))) | exact dfl2 (an g0 (an g3 (an g4 (an hd hd3)))))) | refine adm (an g0 (an g3 (an g4 (an hd hd3)))) ?_))
      refine Ev_call (by exact cal Bool.not_true) (size_ok (hr.ok q mq) (hq q mq).1 (hq q mq).2) ?_ (by rintro v h' ⟨⟨_, e, _⟩, _⟩; cases e)
      rintro u k ⟨⟨N, e, hN⟩, eh⟩
      cases e
      have eh' := eh.symm
      subst eh'
      have w1 : wrapA .i64 ((W : Int) + (N : Int)) = ((W + N : Nat) : Int) := by rw [wrap_i64 (by omega) (by omega)]; omega
      (repeat (first | ((first | with_reducible apply Ev_op_of | with_reducible apply EvDn_op_of); (case hp => rfl); (case hv => exact dfl2 (an g3 (an g4 (an hinc w1))))) | refine adm (an g3 (an g4 (an hinc w1))) ?_))
      exact ⟨rfl, rfl, ⟨i + 1, W + N, hlt, by exact look g0, by exact look Bool.not_true, by exact look Bool.not_true, by omega⟩, by simp (decide := true) only [putD, getT_setT, if_true, g4, cntA_int, if_false]; exact Nat.sub_lt_sub_left hlt (Nat.lt_succ_self i)⟩
    · have hd3 : decide ((W : Int) ≤ 3000) = false := by simp; omega
      (repeat (first | ((first | with_reducible apply Ev_op_of | with_reducible apply EvDn_op_of); (case hp => rfl); (case hv => first | ((with_reducible refine ev_len ?_ rv) <;> exact look (an g0 (an g3 (an g4 (an hd hd3))))) | exact dfl2 (an g0 (an g3 (an g4 (an hd hd3)))))) | refine adm (an g0 (an g3 (an g4 (an hd hd3)))) ?_))
      (refine ⟨rfl, _, by exact ret g3, ?_⟩)
      exact ⟨⟨W, rfl, hW⟩, rfl⟩
  · have hd := nlt_dec hlt
    (repeat (first | ((first | with_reducible apply Ev_op_of | with_reducible apply EvDn_op_of); (case hp => rfl); (case hv => first | ((with_reducible refine ev_len ?_ rv) <;> exact look (an g0 (an g3 (an g4 hd)))) | exact dfl2 (an g0 (an g3 (an g4 hd))))) | refine adm (an g0 (an g3 (an g4 hd))) ?_))
    (refine ⟨rfl, _, by exact ret g3, ?_⟩)
    exact ⟨⟨W, rfl, hW⟩, rfl⟩

set_option maxHeartbeats 4000000 in
theorem sameLists_eq {v1 v2 : AV} {qs rs : List LP} (h1 : RdLs h S v1 qs) (h2 : RdLs h S' v2 rs) (heq : plainL qs = plainL rs) (hb : qs.length ≤ 9999999) (hq : ∀ q ∈ qs, q.2.length ≤ 9999999 ∧ ∀ p ∈ q.2, lens p.1) :
    CallA progK (.fn 8) [v1, v2] h fun r h' => r = .ret (.bool true) ∧ Same (fun j => j < h.next) h h' := by
  refine CallA_body (by rfl) ?_
  have hlen : rs.length = qs.length := by have := congrArg List.length heq; simp only [plainL, List.length_map] at this; exact this.symm
  have r1 : Reads h 1 v1 qs.length (qs.flatMap lsC) := Sl.rd h1.sl
  have r2 : Reads h 1 v2 qs.length (rs.flatMap lsC) := by have := Sl.rd h2.sl; rwa [hlen] at this
  have e0 : ((qs.length : Int) == (qs.length : Int)) = true := by simp
  (repeat (first | ((first | with_reducible apply Ev_op_of | with_reducible apply EvDn_op_of); (case hp => rfl); (case hv => first | ((with_reducible refine ev_len ?_ r1) <;> exact look e0) | ((with_reducible refine ev_len ?_ r2) <;> exact look e0) | exact dfl2 e0)) | refine adm e0 ?_))
  refine Ev_loopH (fun t k => ∃ i : Nat, i ≤ qs.length ∧ getT t 0 = v1 ∧ getT t 1 = v2 ∧ getT t 5 = .int .i64 i ∧ Same (fun j => j < h.next) h k)
    (fun t _ => cntA qs.length (getT t 5)) ⟨0, Nat.zero_le _, by exact look Bool.not_true, by exact look Bool.not_true, (by exact look Int.natCast_zero), Same.refl⟩ ?_
  rintro t k ⟨i, hi, g0, g1, g5, hs⟩
  have f1 := h1.keepB hs
  have f2 := h2.keepB hs
  have rk : Reads k 1 v1 qs.length (qs.flatMap lsC) := Sl.rd f1.sl
  by_cases hlt : i < qs.length
  · have hlt2 : i < rs.length := by omega
    have hd := lt_dec hlt
    have hinc := inc_nat hlt (by omega)
    obtain ⟨a, ha, hix, _, hat⟩ := Sl.at_ (f := lsC) (l := qs) f1.sl lsC_len hlt
    obtain ⟨a2, ha2, hix2, _, hat2⟩ := Sl.at_ (f := lsC) (l := rs) f2.sl lsC_len hlt2
    obtain ⟨q, hqe⟩ : ∃ q, q = qs[i] := ⟨_, rfl⟩
    obtain ⟨s, hse⟩ : ∃ s, s = rs[i] := ⟨_, rfl⟩
    rw [← hqe] at hat
    rw [← hse] at hat2
    have hld : loadA k false 1 a = some q.1 := Sl.load1 hat
    have hld2 : loadA k false 1 a2 = some s.1 := Sl.load1 hat2
    have mq : q ∈ qs := hqe ▸ List.getElem_mem hlt
    have ms : s ∈ rs := hse ▸ List.getElem_mem hlt2
    have hpq : plainF q.2 = plainF s.2 := by
      have h1 : (plainL qs)[i]? = (plainL rs)[i]? := by rw [heq]
      simp only [plainL, List.getElem?_map, List.getElem?_eq_getElem hlt, List.getElem?_eq_getElem hlt2, Option.map_some, Option.some.injEq] at h1
      rw [hqe, hse]; exact h1
    (repeat (first | ((first | with_reducible apply Ev_op_of | with_reducible apply EvDn_op_of); (case hp => rfl); (case hv => first | ((with_reducible refine ev_len ?_ rk) <;> exact look (an g0 (an g1 (an g5 hd)))) | ((with_reducible refine hix _ _ _ .i64 ?_ ?_) <;> exact look (an g0 (an g1 (an g5 hd)))) | ((with_reducible refine hix2 _ _ _ .i64 ?_ ?_) <;> exact look (an g0 (an g1 (an g5 hd)))) | ((with_reducible refine ev_load ?_ hld) <;> exact look (an g0 (an g1 (an g5 hd)))) | ((with_reducible refine ev_load ?_ hld2) <;> exact look (an g0 (an g1 (an g5 hd)))) | exact dfl2 (an g0 (an g1 (an g5 hd))))) | refine adm (an g0 (an g1 (an g5 hd))) ?_))
    refine EvDn_call (P := fun v h' => v = .bool true ∧ Same (fun j => j < k.next) k h') (by exact cal Bool.not_true) ((equalFrs_eq (f1.ok q mq) (f2.ok s ms) hpq (by have := (hq q mq).1; omega) (hq q mq).2).mono fun r h' hp => ⟨_, hp.1, rfl, hp.2⟩) ?_
    rintro u k1 ⟨rfl, hs1⟩
    refine ⟨rfl, ?_⟩
    (repeat (first | ((first | with_reducible apply Ev_op_of | with_reducible apply EvDn_op_of); (case hp => rfl); (case hv => exact dfl2 (an g5 hinc))) | refine adm (an g5 hinc) ?_))
    exact ⟨rfl, ⟨i + 1, hlt, by exact look g0, by exact look g1, by exact look Bool.not_true, hs.trans (hs1.sub fun j hj => by have := hs.next; omega)⟩, by simp (decide := true) only [putD, getT_setT, if_true, g5, cntA_int, if_false]; exact Nat.sub_lt_sub_left hlt (Nat.lt_succ_self i)⟩
  · have hd := nlt_dec hlt
    (repeat (first | ((first | with_reducible apply Ev_op_of | with_reducible apply EvDn_op_of); (case hp => rfl); (case hv => first | ((with_reducible refine ev_len ?_ rk) <;> exact look (an g0 (an g1 (an g5 hd)))) | exact dfl2 (an g0 (an g1 (an g5 hd))))) | refine adm (an g0 (an g1 (an g5 hd))) ?_))
    (refine ⟨rfl, _, by exact ret Bool.not_true, ?_⟩)
    exact ⟨rfl, hs⟩

theorem at_ok {v : AV} {M : List (List SF)} {i : Nat} (hs : Sl h S 1 v x.length (x.map byteA)) (hx : x.length ≤ 1048576) (hd : dec x = some M) (hi : i < M.length) (hM : M.length ≤ 9999999) :
    CallA progK (.fn 9) [v, .int .i64 i] h fun r h' => (∃ fv ps, r = .ret (.tuple [fv, .int .i64 0]) ∧ RdFrs h' (fun _ => True) fv ps ∧ plainF ps = M[i]) ∧ Same (fun j => j < h.next) h h' := by
  refine CallA_body (by rfl) ?_
  (repeat (first | ((first | with_reducible apply Ev_op_of | with_reducible apply EvDn_op_of); (case hp => rfl); (case hv => exact dfl2 Bool.not_true)) | refine adm Bool.not_true ?_))
  refine Ev_call (by exact cal Bool.not_true) (decode_ok hs hx) ?_ (by
    rintro q k ⟨e, _⟩
    unfold DecR at e
    rw [hd] at e
    obtain ⟨_, _, _, e, _⟩ := e; cases e)
  rintro q k ⟨e, hsk⟩
  unfold DecR at e
  rw [hd] at e
  obtain ⟨w, qs, hp, e, hr⟩ := e
  cases e
  have hlq : qs.length = M.length := by rw [← hp]; simp [plainL]
  have hlt : i < qs.length := by omega
  have rw_ : Reads k 1 w qs.length (qs.flatMap lsC) := Sl.rd hr.sl
  obtain ⟨a, ha, hix, _, hat⟩ := Sl.at_ (f := lsC) (l := qs) hr.sl lsC_len hlt
  obtain ⟨q, hqe⟩ : ∃ q, q = qs[i] := ⟨_, rfl⟩
  rw [← hqe] at hat
  have hld : loadA k false 1 a = some q.1 := Sl.load1 hat
  have e0 : ((0 : Int) == 0) = true := rfl
  have d0 : decide ((i : Int) < 0) = false := by simp
  have d1 : decide ((qs.length : Int) ≤ (i : Int)) = false := by simp; omega
  (repeat (first | ((first | with_reducible apply Ev_op_of | with_reducible apply EvDn_op_of); (case hp => rfl); (case hv => first | ((with_reducible refine ev_len ?_ rw_) <;> exact look (an e0 (an d0 d1))) | ((with_reducible refine ev_geq ?_ ?_) <;> exact look (an e0 (an d0 d1))) | ((with_reducible refine hix _ _ _ .i64 ?_ ?_) <;> exact look (an e0 (an d0 d1))) | ((with_reducible refine ev_load ?_ hld) <;> exact look (an e0 (an d0 d1))) | exact dfl2 (an e0 (an d0 d1)))) | refine adm (an e0 (an d0 d1)) ?_))
  (refine ⟨rfl, _, by exact ret Bool.not_true, ?_⟩)
  refine ⟨⟨q.1, q.2, rfl, (hr.ok q (hqe ▸ List.getElem_mem hlt)).sub fun _ _ _ => trivial, ?_⟩, hsk⟩
  have : (plainL qs)[i]? = M[i]? := by rw [hp]
  simp only [plainL, List.getElem?_map, List.getElem?_eq_getElem hlt, List.getElem?_eq_getElem hi, Option.map_some, Option.some.injEq] at this
  rw [hqe]; exact this
end
end Go.AM
