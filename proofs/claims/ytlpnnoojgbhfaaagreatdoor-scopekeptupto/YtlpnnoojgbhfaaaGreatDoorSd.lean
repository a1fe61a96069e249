/- WHAT Shared, Len, Bytes DO. -/
import Derived.Test.YtlpnnoojgbhfaaaGreatDoorGo
import Derived.Test.YtlpnnoojgbhfaaaGreatDoorSb
import Derived.Test.YtlpnnoojgbhfaaaGreatDoorK
import Derived.Test.YtlpnnoojgbhfaaaGreatDoorSc
set_option linter.all false
namespace Go.AM
set_option maxRecDepth 10000
set_option linter.unusedSimpArgs false

theorem shared_step {x y : List SF} {i : Nat} (h1 : i < x.length) (h2 : i < y.length) : sharedN (x.drop i) (y.drop i) = if x[i] = y[i] then sharedN (x.drop (i + 1)) (y.drop (i + 1)) + 1 else 0 := by
  rw [List.drop_eq_getElem_cons h1, List.drop_eq_getElem_cons h2]; rfl
theorem shared_end1 {x y : List SF} {i : Nat} (h1 : x.length ≤ i) : sharedN (x.drop i) (y.drop i) = 0 := by
  rw [List.drop_eq_nil_of_le h1]; simp [sharedN]
theorem shared_end2 {x y : List SF} {i : Nat} (h1 : y.length ≤ i) : sharedN (x.drop i) (y.drop i) = 0 := by
  rw [List.drop_eq_nil_of_le h1]; cases x.drop i <;> simp [sharedN]

section
variable {h : Heap} {S S' : Nat → Prop}

theorem RdFrs.up {v : AV} {ps : List FP} (hr : RdFrs h S v ps) : RdFrs h (fun j => j < h.next) v ps := hr.sub fun j _ hlt => hlt
theorem RdLs.up {v : AV} {qs : List LP} (hr : RdLs h S v qs) : RdLs h (fun j => j < h.next) v qs := hr.sub fun j _ hlt => hlt

set_option maxHeartbeats 4000000 in
theorem shared_ok {v1 v2 : AV} {ps qs : List FP} (h1 : RdFrs h S v1 ps) (h2 : RdFrs h S' v2 qs) (hb1 : ps.length < 1000000000) (hb2 : qs.length < 1000000000) (hl1 : ∀ p ∈ ps, lens p.1) (hl2 : ∀ p ∈ qs, lens p.1) :
    CallA progK (.fn 16) [v1, v2] h fun r h' => r = .ret (.int .i64 (sharedN (plainF ps) (plainF qs) : Nat)) ∧ Same (fun j => j < h.next) h h' := by
  refine CallA_body (by rfl) ?_
  (repeat (first | ((first | with_reducible apply Ev_op_of | with_reducible apply EvDn_op_of); (case hp => rfl); (case hv => exact dfl2 Bool.not_true)) | refine adm Bool.not_true ?_))
  refine Ev_loopH (fun t h' => ∃ i : Nat, i ≤ ps.length ∧ i ≤ qs.length ∧ getT t 0 = v1 ∧ getT t 1 = v2 ∧ getT t 5 = .int .i64 i ∧ sharedN (plainF ps) (plainF qs) = i + sharedN ((plainF ps).drop i) ((plainF qs).drop i) ∧ Same (fun j => j < h.next) h h')
    (fun t _ => cntA ps.length (getT t 5)) ⟨0, Nat.zero_le _, Nat.zero_le _, by exact look Bool.not_true, by exact look Bool.not_true, (by exact look Int.natCast_zero), by simp, Same.refl⟩ ?_
  rintro t k0 ⟨i, hi, hi2, g0, g1, g5, hsh, hs0⟩
  have f1 := h1.up.keep hs0.keep
  have f2 := h2.up.keep hs0.keep
  have r1 : Reads k0 18 v1 ps.length (ps.flatMap frC) := Sl.rd f1.sl
  have r2 : Reads k0 18 v2 qs.length (qs.flatMap frC) := Sl.rd f2.sl
  by_cases hlt : i < ps.length
  · have hd : decide ((i : Int) < (ps.length : Int)) = true := by simpa using hlt
    by_cases hlt2 : i < qs.length
    · have hd2 : decide ((i : Int) < (qs.length : Int)) = true := by simpa using hlt2
      have hw := inc_n hlt hb1
      obtain ⟨a1, ha1, hi1, ld1, _⟩ := Sl.at_ (f := frC) (l := ps) f1.sl frC_len hlt
      obtain ⟨a2, ha2, hi3, ld2, _⟩ := Sl.at_ (f := frC) (l := qs) f2.sl frC_len hlt2
      obtain ⟨p, hp⟩ : ∃ p, p = ps[i] := ⟨_, rfl⟩
      obtain ⟨q, hq⟩ : ∃ q, q = qs[i] := ⟨_, rfl⟩
      rw [← hp] at ld1
      rw [← hq] at ld2
      have mp : p ∈ ps := hp ▸ List.getElem_mem hlt
      have mq : q ∈ qs := hq ▸ List.getElem_mem hlt2
      have hst := shared_step (x := plainF ps) (y := plainF qs) (i := i) (by simpa [plainF] using hlt) (by simpa [plainF] using hlt2)
      have hx : (plainF ps)[i]'(by simpa [plainF] using hlt) = p.1 := by simp [plainF, hp]
      have hy : (plainF qs)[i]'(by simpa [plainF] using hlt2) = q.1 := by simp [plainF, hq]
      rw [hx, hy] at hst
      (repeat (first | ((first | with_reducible apply Ev_op_of | with_reducible apply EvDn_op_of); (case hp => rfl); (case hv => first | ((with_reducible refine ev_len ?_ r1) <;> exact look (an g0 (an g1 (an g5 (an hd hd2))))) | ((with_reducible refine ev_len ?_ r2) <;> exact look (an g0 (an g1 (an g5 (an hd hd2))))) | ((with_reducible refine hi1 _ _ _ .i64 ?_ ?_) <;> exact look (an g0 (an g1 (an g5 (an hd hd2))))) | ((with_reducible refine hi3 _ _ _ .i64 ?_ ?_) <;> exact look (an g0 (an g1 (an g5 (an hd hd2))))) | ((with_reducible refine ev_load ?_ ld1) <;> exact look (an g0 (an g1 (an g5 (an hd hd2))))) | ((with_reducible refine ev_load ?_ ld2) <;> exact look (an g0 (an g1 (an g5 (an hd hd2))))) | exact dfl2 (an g0 (an g1 (an g5 (an hd hd2)))))) | refine adm (an g0 (an g1 (an g5 (an hd hd2)))) ?_))
      refine EvDn_call (P := fun v h' => v = .bool (decide (p.1 = q.1)) ∧ Same (fun j => j < k0.next) k0 h') (by exact cal Bool.not_true) ((same_ok (f1.ok p mp) (f2.ok q mq) (hl1 p mp).1 (hl1 p mp).2 (hl2 q mq).1 (hl2 q mq).2).mono fun r h' hp => ⟨_, hp.1, rfl, hp.2⟩) ?_
      rintro v h' ⟨rfl, hs1⟩
      refine ⟨rfl, ?_⟩
      have hs2 : Same (fun j => j < h.next) h h' := hs0.trans (hs1.sub fun j hj => Nat.lt_of_lt_of_le hj hs0.next)
      by_cases he : p.1 = q.1
      · have hde : decide (p.1 = q.1) = true := by simpa using he
        rw [if_pos he] at hst
        (repeat (first | ((first | with_reducible apply Ev_op_of | with_reducible apply EvDn_op_of); (case hp => rfl); (case hv => exact dfl2 (an g5 (an hde (an hd (an hd2 hw)))))) | refine adm (an g5 (an hde (an hd (an hd2 hw)))) ?_))
        exact ⟨rfl, ⟨i + 1, hlt, hlt2, by exact look g0, by exact look g1, by exact look Bool.not_true, by rw [hsh, hst]; omega, hs2⟩, by simp (decide := true) only [putD, getT_setT, if_true, g5, cntA_int, if_false]; omega⟩
      · have hde : decide (p.1 = q.1) = false := by simpa using he
        rw [if_neg he] at hst
        (repeat (first | ((first | with_reducible apply Ev_op_of | with_reducible apply EvDn_op_of); (case hp => rfl); (case hv => exact dfl2 (an g5 (an hde (an hd hd2))))) | refine adm (an g5 (an hde (an hd hd2))) ?_))
        (refine ⟨rfl, _, by exact ret Bool.not_true, ?_⟩)
        refine ⟨?_, hs2⟩
        rw [hsh, hst]; rfl
    · have hd2 : decide ((i : Int) < (qs.length : Int)) = false := by simpa using hlt2
      have hst := shared_end2 (x := plainF ps) (y := plainF qs) (i := i) (by simp [plainF]; omega)
      (repeat (first | ((first | with_reducible apply Ev_op_of | with_reducible apply EvDn_op_of); (case hp => rfl); (case hv => first | ((with_reducible refine ev_len ?_ r1) <;> exact look (an g0 (an g1 (an g5 (an hd hd2))))) | ((with_reducible refine ev_len ?_ r2) <;> exact look (an g0 (an g1 (an g5 (an hd hd2))))) | exact dfl2 (an g0 (an g1 (an g5 (an hd hd2)))))) | refine adm (an g0 (an g1 (an g5 (an hd hd2)))) ?_))
      (refine ⟨rfl, _, by exact ret Bool.not_true, ?_⟩)
      refine ⟨?_, hs0⟩
      rw [hsh, hst]; rfl
  · have hd : decide ((i : Int) < (ps.length : Int)) = false := by simpa using hlt
    have hst := shared_end1 (x := plainF ps) (y := plainF qs) (i := i) (by simp [plainF]; omega)
    (repeat (first | ((first | with_reducible apply Ev_op_of | with_reducible apply EvDn_op_of); (case hp => rfl); (case hv => first | ((with_reducible refine ev_len ?_ r1) <;> exact look (an g0 (an g1 (an g5 hd)))) | ((with_reducible refine ev_len ?_ r2) <;> exact look (an g0 (an g1 (an g5 hd)))) | exact dfl2 (an g0 (an g1 (an g5 hd))))) | refine adm (an g0 (an g1 (an g5 hd))) ?_))
    (refine ⟨rfl, _, by exact ret Bool.not_true, ?_⟩)
    refine ⟨?_, hs0⟩
    rw [hsh, hst]; rfl

theorem Buf.field {c : Nat} {o : Option Nat} {bs : List UInt8} (hb : Buf h c o bs) : ∃ tw fz lr v, h.find c = some (.cells tw [v, .int .i64 0, lr] true fz []) ∧ Sl h (fun j => o = some j) 1 v bs.length (bs.map byteA) := by
  cases hb with
  | nil hf hz => exact ⟨_, _, _, _, hf, reads0 rfl (by simp), trivial⟩
  | @known b n k tw fz cs lr _ hb hbs h0 hcb =>
    have hlen := congrArg List.length hbs
    rw [List.length_take, List.length_map] at hlen
    have hkc := hb.kc
    have hle := hb.le
    have hn : bs.length = n := by omega
    refine ⟨_, _, _, _, hb.field, ⟨?_, by simp, by simp, .inr ⟨rfl, ?_⟩⟩, rfl, rfl, ?_, _, cellsAt_of hb.blk⟩
    · simp only [lenA, Option.some.injEq]; omega
    · simp only [readAt, hb.blk]
      rw [cut_eq (by omega), List.drop_zero, ← hbs, Nat.mul_one, hn]
    · intro k hk
      simp only [Option.some.injEq] at hk
      omega
  | unk hu hcb =>
    have hl := hu.len
    refine ⟨_, _, _, _, hu.field, ⟨?_, by simp, by simp, .inr ⟨rfl, ?_⟩⟩, rfl, rfl, (by intro k hk; cases hk), _, cellsAt_of hu.blk⟩
    · simp only [lenA, Option.some.injEq]; omega
    · simp only [readAt, hu.blk]
      rw [cut_eq (by simp), List.drop_zero, Nat.mul_one, List.take_append_of_le_length (by simp), List.take_of_length_le (by simp)]

theorem bufLen_ok {c : Nat} {o : Option Nat} {bs : List UInt8} (hb : Buf h c o bs) (hl : bs.length < 1000000000) : CallA progK (.fn 20) [.ptr c 0] h fun r h' => r = .ret (.int .i64 (bs.length : Nat)) ∧ h' = h := by
  refine CallA_body (by rfl) ?_
  obtain ⟨tw, fz, lr, v, hf, hs⟩ := hb.field
  have hr := hs.rd
  have hw : wrapA .i64 ((bs.length : Int) - 0) = (bs.length : Int) := by rw [wrap_i64 (by omega) (by omega)]; omega
  (repeat (first | ((first | with_reducible apply Ev_op_of | with_reducible apply EvDn_op_of); (case hp => rfl); (case hv => first | ((with_reducible refine ev_loadP (c := c) (o := 0) hf rfl ?_) <;> exact look hw) | ((with_reducible refine ev_loadP (c := c) (o := 1) hf rfl ?_) <;> exact look hw) | ((with_reducible refine ev_len ?_ hr) <;> exact look hw) | exact dfl2 hw)) | refine adm hw ?_))
  (refine ⟨rfl, _, by exact ret Bool.not_true, ?_⟩)
  exact ⟨rfl, rfl⟩

theorem bufBytes_ok {c : Nat} {o : Option Nat} {bs : List UInt8} (hb : Buf h c o bs) : CallA progK (.fn 21) [.ptr c 0] h fun r h' => (∃ v, r = .ret v ∧ Sl h (fun j => o = some j) 1 v bs.length (bs.map byteA)) ∧ h' = h := by
  refine CallA_body (by rfl) ?_
  obtain ⟨tw, fz, lr, v, hf, hs⟩ := hb.field
  (repeat (first | ((first | with_reducible apply Ev_op_of | with_reducible apply EvDn_op_of); (case hp => rfl); (case hv => first | ((with_reducible refine ev_loadP (c := c) (o := 0) hf rfl ?_) <;> exact look Bool.not_true) | ((with_reducible refine ev_loadP (c := c) (o := 1) hf rfl ?_) <;> exact look Bool.not_true) | exact dfl2 Bool.not_true)) | refine adm Bool.not_true ?_))
  obtain ⟨v2, e2, hs2⟩ := Sl.lo (t := putD (putD (putD (putD (putD (putD (putD (putD (putD (argsT [.ptr c 0]) (some 2) .nilslice) (some 3) (.ptr c 0)) (some 4) (.ptr c 0)) (some 5) (.ptr c 0)) (some 6) v) (some 7) (.ptr c 0)) (some 8) (.ptr c 0)) (some 9) (.ptr c 1)) (some 10) (.int .i64 0)) (x := .t 6) (lo := .t 10) (m := 0) (kk := .i64) hs (by exact look Bool.not_true) (by exact look Int.natCast_zero) (Nat.zero_le _)
  refine EvDn_op_of rfl e2 ?_
  (repeat (first | ((first | with_reducible apply Ev_op_of | with_reducible apply EvDn_op_of); (case hp => rfl); (case hv => exact dfl2 Bool.not_true)) | refine adm Bool.not_true ?_))
  (refine ⟨rfl, _, by exact ret Bool.not_true, ?_⟩)
  simp only [Nat.sub_zero, Nat.zero_mul, List.drop_zero] at hs2
  exact ⟨⟨_, rfl, hs2⟩, rfl⟩
end
end Go.AM

/- WHAT Encode DOES. -/
namespace Go.AM
set_option maxRecDepth 10000
set_option linter.unusedSimpArgs false

theorem cnt_step {i n : Nat} (h : i < n) : n - (i + 1) < n - i := by omega

section
variable {h : Heap} {S : Nat → Prop}

/-- lists that can be encoded within the greatest buffer -/
structure EncOK (M : List (List SF)) : Prop where
  wf : ∀ fs ∈ M, ∀ f ∈ fs, f.wf ∧ lens f
  len : M.length ≤ 9999999
  size : ∀ fs ∈ M, (fs.flatMap frB).length ≤ 25165824

def EncR (h : Heap) (M : List (List SF)) (r : ARes) (h' : Heap) : Prop :=
  match enc M with
  | some x => ∃ v', r = .ret (.tuple [v', .int .i64 0]) ∧ Sl h' (fun j => h.next ≤ j) 1 v' x.length (x.map byteA)
  | none => r = .ret (.tuple [.nilslice, .int .i64 2])

set_option maxHeartbeats 8000000 in
theorem encode_ok {v : AV} {qs : List LP} (hr : RdLs h S v qs) (hM : EncOK (plainL qs)) :
    CallA progK (.fn 6) [v] h fun r h' => EncR h (plainL qs) r h' ∧ Same (fun j => j < h.next) h h' := by
  refine CallA_body (by rfl) ?_
  have hlenM : (plainL qs).length = qs.length := by simp [plainL]
  have hlen := hM.len
  rw [hlenM] at hlen
  obtain ⟨c, hc⟩ : ∃ c, c = h.next := ⟨_, rfl⟩
  obtain ⟨h0, hh0⟩ : ∃ h0, h0 = h.push (.cells 75 [.nilslice, .int .i64 0, .int .i8 0] true 1 []) := ⟨_, rfl⟩
  have hn0 : h0.next = c + 1 := by rw [hh0, hc]; rfl
  have s0 : Same (fun j => j < h.next) h h0 := by rw [hh0]; exact Same.push
  have hb0 : Buf h0 c none [] := .nil (tw := 75) (fz := 1) (lr := .int .i8 0) (by rw [hh0, hc]; exact find_push_new) (Nat.le_refl _)
  have hr0 : RdLs h0 (fun j => j < c) v qs := (hr.up.keep s0.keep).sub fun j hj _ => by rw [hc]; exact hj
  have ev0 : ∀ {t : Tm} {x : Opd}, x.ev t = .agg [.nilslice, .int .i64 0, .int .i8 0] → evOp (.box 75 x) t h = some (.ptr c 0, h0) := fun hx => by
    simp only [evOp, hx]; rw [hh0, hc]; rfl
  have ev1 : ∀ {t : Tm}, evOp (.build [.nilslice, (.int .i64 0), (.int .i8 0)] []) t h = some (.agg [.nilslice, .int .i64 0, .int .i8 0], h) := rfl
  have rl : Reads h0 1 v qs.length (qs.flatMap lsC) := Sl.rd hr0.sl
  have hb1 : Buf (h0.push (.cells 3 (([(qs.length : Nat)] : List Int).flatMap inC) true 1 [])) c none [] := hb0.push
  have hS : Sl (h0.push (.cells 3 (([(qs.length : Nat)] : List Int).flatMap inC) true 1 [])) (Beside c none) 1 (.slice h0.next 0 1 (some 1) 1) 1 (([(qs.length : Nat)] : List Int).flatMap inC) := Sl.fresh (Beside.new hb0 (Nat.le_refl _)) rfl (by intro k hk; cases hk; omega)
  have hnl := numB_nat (n := qs.length) hlen
  (repeat (first | ((first | with_reducible apply Ev_op_of | with_reducible apply EvDn_op_of); (case hp => rfl); (case hv => first | ((with_reducible refine ev1) <;> exact look Bool.not_true) | ((with_reducible refine ev0 ?_) <;> exact look Bool.not_true) | ((with_reducible refine ev_len ?_ rl) <;> exact look Bool.not_true) | ((with_reducible refine ev_b1 (n0 := (qs.length : Nat)) ?_) <;> exact look Bool.not_true) | exact dfl2 Bool.not_true)) | refine adm Bool.not_true ?_))
  refine Ev_call (by exact cal Bool.not_true) (numbers_ok (ns := [(qs.length : Nat)]) hb1 hS (by
    intro n hn
    simp only [List.mem_cons, List.not_mem_nil, or_false] at hn
    subst hn
    unfold isI64; omega) (by simp only [List.flatMap_cons, List.flatMap_nil, List.append_nil, List.length_nil]; omega) (by simp)) ?_ (by rintro v h' ⟨e, _⟩; cases e)
  rintro r h2 ⟨e, o2, hb2, hw2⟩
  cases e
  simp only [List.flatMap_cons, List.flatMap_nil, List.append_nil, List.nil_append] at hb2
  have hW2 : Wrote c h0 none h2 o2 := Wrote.push.trans hw2
  have nilFrs : ∀ k : Heap, RdFrs k (fun j => j < c) .nilslice [] := fun k => ⟨⟨reads0 rfl (by simp), trivial⟩, fun p hp => by cases hp⟩
  (repeat (first | ((first | with_reducible apply Ev_op_of | with_reducible apply EvDn_op_of); (case hp => rfl); (case hv => first | ((with_reducible refine ev_len ?_ rl) <;> exact look Bool.not_true) | exact dfl2 Bool.not_true)) | refine adm Bool.not_true ?_))
  refine Ev_loopH (fun t k => ∃ (i : Nat) (o : Option Nat) (acc : List UInt8) (lv : AV) (lp : List FP), i ≤ qs.length ∧ getT t 4 = .ptr c 0 ∧ getT t 5 = lv ∧ getT t 18 = v ∧ getT t 19 = .int .i64 qs.length ∧ getT t 20 = .int .i64 i ∧ Buf k c o acc ∧ Wrote c h0 none k o ∧ RdFrs k (fun j => j < c) lv lp ∧ (∀ p ∈ lp, lens p.1) ∧ lp.length ≤ 20 ∧ acc.length ≤ 1048576 ∧
      encGo (plainF lp) acc ((plainL qs).drop i) = enc (plainL qs))
    (fun t _ => cntA qs.length (getT t 20)) ⟨0, o2, numB (qs.length : Nat), .nilslice, [], Nat.zero_le _, by exact look Bool.not_true, by exact look Bool.not_true, by exact look Bool.not_true, by exact look Bool.not_true, (by exact look Int.natCast_zero), hb2, hW2, nilFrs h2, (fun p hp => by cases hp), Nat.zero_le _, by omega, by rw [List.drop_zero]; unfold enc; rw [hlenM]; rfl⟩ ?_
  rintro t k ⟨i, o, acc, lv, lp, hi, g4, g5, g18, g19, g20, hb, hW, hlv, hll, hl20, hacc, henc⟩
  have bl : Same (fun j => j < c) h0 k := hW.below hb0
  have sT : Same (fun j => j < h.next) h k := s0.trans (bl.sub fun j hj => by rw [hc]; exact hj)
  by_cases hlt : i < qs.length
  · have hd := lt_dec hlt
    have hinc := inc_nat hlt (by omega)
    have hrk : RdLs k (fun j => j < c) v qs := hr0.keep bl.keep
    obtain ⟨a, ha, hix, _, hat⟩ := Sl.at_ (f := lsC) (l := qs) hrk.sl lsC_len hlt
    obtain ⟨q, hq⟩ : ∃ q, q = qs[i] := ⟨_, rfl⟩
    rw [← hq] at hat
    have hld : loadA k false 1 a = some q.1 := Sl.load1 hat
    have mq : q ∈ qs := hq ▸ List.getElem_mem hlt
    have hfq : RdFrs k (fun j => j < c) q.1 q.2 := hrk.ok q mq
    have mM : plainF q.2 ∈ plainL qs := List.mem_map.2 ⟨q, mq, rfl⟩
    have hwf := hM.wf _ mM
    have hsz := hM.size _ mM
    have lq : (plainF q.2).length = q.2.length := by simp [plainF]
    have hlf : ∀ p ∈ q.2, lens p.1 := fun p hp => (hwf p.1 (List.mem_map.2 ⟨p, hp, rfl⟩)).2
    have rq : Reads k 18 q.1 q.2.length (q.2.flatMap frC) := Sl.rd hfq.sl
    have hdrop : (plainL qs).drop i = plainF q.2 :: (plainL qs).drop (i + 1) := by
      rw [List.drop_eq_getElem_cons (by rw [hlenM]; exact hlt)]
      simp [plainL, hq]
    rw [hdrop] at henc
    simp only [encGo, lq] at henc
    by_cases h20 : 20 < q.2.length
    · have hd20 : decide (20 < (q.2.length : Int)) = true := by simp; omega
      rw [if_pos h20] at henc
      (repeat (first | ((first | with_reducible apply Ev_op_of | with_reducible apply EvDn_op_of); (case hp => rfl); (case hv => first | ((with_reducible refine hix _ _ _ .i64 ?_ ?_) <;> exact look (an g4 (an g5 (an g18 (an g19 (an g20 (an hd hd20))))))) | ((with_reducible refine ev_load ?_ hld) <;> exact look (an g4 (an g5 (an g18 (an g19 (an g20 (an hd hd20))))))) | ((with_reducible refine ev_len ?_ rq) <;> exact look (an g4 (an g5 (an g18 (an g19 (an g20 (an hd hd20))))))) | exact dfl2 (an g4 (an g5 (an g18 (an g19 (an g20 (an hd hd20)))))))) | refine adm (an g4 (an g5 (an g18 (an g19 (an g20 (an hd hd20)))))) ?_))
      (refine ⟨rfl, _, by exact ret Bool.not_true, ?_⟩)
      exact ⟨by unfold EncR; rw [← henc]; rfl, sT⟩
    · have hd20 : decide (20 < (q.2.length : Int)) = false := by simp; omega
      rw [if_neg h20] at henc
      (repeat (first | ((first | with_reducible apply Ev_op_of | with_reducible apply EvDn_op_of); (case hp => rfl); (case hv => first | ((with_reducible refine hix _ _ _ .i64 ?_ ?_) <;> exact look (an g4 (an g5 (an g18 (an g19 (an g20 (an hd hd20))))))) | ((with_reducible refine ev_load ?_ hld) <;> exact look (an g4 (an g5 (an g18 (an g19 (an g20 (an hd hd20))))))) | ((with_reducible refine ev_len ?_ rq) <;> exact look (an g4 (an g5 (an g18 (an g19 (an g20 (an hd hd20))))))) | exact dfl2 (an g4 (an g5 (an g18 (an g19 (an g20 (an hd hd20)))))))) | refine adm (an g4 (an g5 (an g18 (an g19 (an g20 (an hd hd20)))))) ?_))
      refine Ev_call (by exact cal g5) (shared_ok hlv hfq (by omega) (by omega) hll hlf) ?_ (by rintro v h' ⟨e, _⟩; cases e)
      rintro r k1 ⟨e, sk1⟩
      cases e
      obtain ⟨n, hn⟩ : ∃ n, n = sharedN (plainF lp) (plainF q.2) := ⟨_, rfl⟩
      have hnle : n ≤ q.2.length := by rw [hn]; have := (sharedN_le (plainF lp) (plainF q.2)).2.1; omega
      have hlB : listB (plainF lp) (plainF q.2) = numB (q.2.length : Nat) ++ (numB (n : Nat) ++ ((plainF q.2).drop n).flatMap frB) := by unfold listB; rw [lq, hn]
      rw [← hn]
      have hb1 : Buf k1 c o acc := hb.of_same sk1
      have hW1 : Wrote c h0 none k1 o := hW.trans (Wrote.of_same sk1)
      have hfq1 : RdFrs k1 (fun j => j < c) q.1 q.2 := hfq.keep (sk1.sub fun j hj => by have := hb.lt.1; omega).keep
      have rq1 : Reads k1 18 q.1 q.2.length (q.2.flatMap frC) := Sl.rd hfq1.sl
      let ns : List Int := [(q.2.length : Nat), (n : Nat)]
      have hb1' : Buf (k1.push (.cells 3 (ns.flatMap inC) true 1 [])) c o acc := hb1.push
      have hS1 : Sl (k1.push (.cells 3 (ns.flatMap inC) true 1 [])) (Beside c o) 1 (.slice k1.next 0 2 (some 2) 1) 2 (ns.flatMap inC) := Sl.fresh (Beside.new hb1 (Nat.le_refl _)) rfl (by intro k hk; cases hk; omega)
      have hm1 := numB_small (n := q.2.length) (by omega)
      have hm2 := numB_small (n := n) (by omega)
      (repeat (first | ((first | with_reducible apply Ev_op_of | with_reducible apply EvDn_op_of); (case hp => rfl); (case hv => first | ((with_reducible refine ev_len ?_ rq1) <;> exact look g4) | ((with_reducible refine ev_b2 (n0 := (q.2.length : Nat)) (n1 := (n : Nat)) ?_ ?_) <;> exact look g4) | exact dfl2 g4)) | refine adm g4 ?_))
      refine Ev_call (by exact cal g4) (numbers_ok (ns := ns) hb1' hS1 (by
        intro m hm
        simp only [ns, List.mem_cons, List.not_mem_nil, or_false] at hm
        unfold isI64
        rcases hm with rfl | rfl <;> omega) (by simp only [ns, List.flatMap_cons, List.flatMap_nil, List.append_nil, List.length_append]; omega) (by simp [ns])) ?_ (by rintro v h' ⟨e, _⟩; cases e)
      rintro r k2 ⟨e, o2', hb2', hw2'⟩
      cases e
      have hW2' : Wrote c h0 none k2 o2' := hW1.trans (Wrote.push.trans hw2')
      simp only [ns, List.flatMap_cons, List.flatMap_nil, List.append_nil] at hb2'
      have bl2 : Same (fun j => j < c) h0 k2 := hW2'.below hb0
      have hfq2 : RdFrs k2 (fun j => j < c) q.1 q.2 := (hr0.keep bl2.keep).ok q mq
      obtain ⟨v38, hv38, cut38⟩ := hfq2.sl.loF (m := n) hnle
      rw [flat_drop frC_len] at hv38
      have ld38 : (q.2.drop n).length = q.2.length - n := by rw [List.length_drop]
      rw [← ld38] at hv38
      have r38 : Reads k2 18 v38 (q.2.drop n).length ((q.2.drop n).flatMap frC) := Sl.rd hv38
      have hfd : (plainF q.2).drop n = plainF (q.2.drop n) := by simp [plainF, List.map_drop]
      have hszd : ((plainF (q.2.drop n)).flatMap frB).length ≤ 25165824 := by
        rw [← hfd]
        have : (((plainF q.2).drop n).flatMap frB).length ≤ ((plainF q.2).flatMap frB).length := by
          conv => rhs; rw [← List.take_append_drop n (plainF q.2)]
          rw [List.flatMap_append, List.length_append]; omega
        omega
      rw [hfd] at hlB
      (repeat (first | ((first | with_reducible apply Ev_op_of | with_reducible apply EvDn_op_of); (case hp => rfl); (case hv => first | ((with_reducible refine cut38 _ _ _ .i64 ?_ ?_) <;> exact look Bool.not_true) | ((with_reducible refine ev_len ?_ r38) <;> exact look Bool.not_true) | exact dfl2 Bool.not_true)) | refine adm Bool.not_true ?_))
      refine Ev_loopH (fun t k => ∃ (m : Nat) (o : Option Nat), m ≤ (q.2.drop n).length ∧ getT t 4 = .ptr c 0 ∧ getT t 7 = q.1 ∧ getT t 18 = v ∧ getT t 19 = .int .i64 qs.length ∧ getT t 20 = .int .i64 i ∧ getT t 38 = v38 ∧ getT t 39 = .int .i64 (q.2.drop n).length ∧ getT t 40 = .int .i64 m ∧
          Buf k c o (acc ++ (numB (q.2.length : Nat) ++ numB (n : Nat)) ++ ((plainF (q.2.drop n)).take m).flatMap frB) ∧ Wrote c k2 o2' k o)
        (fun t _ => cntA (q.2.drop n).length (getT t 40)) ⟨0, o2', Nat.zero_le _, by exact look g4, by exact look Bool.not_true, by exact look g18, by exact look g19, by exact look g20, by exact look Bool.not_true, by exact look Bool.not_true, (by exact look Int.natCast_zero), by simpa using hb2', Wrote.refl⟩ ?_
      rintro t' k' ⟨m, o', hm, g4', g7', g18', g19', g20', g38', g39', g40', hb', hW'⟩
      have blk : Same (fun j => j < c) k2 k' := hW'.below hb2'
      have hWh : Wrote c h0 none k' o' := hW2'.trans hW'
      by_cases hmt : m < (q.2.drop n).length
      · have hd' := lt_dec hmt
        have hinc' := inc_nat hmt (by omega)
        have hfq' : RdFrs k' (fun j => j < c) q.1 q.2 := hfq2.keep blk.keep
        have hv' : Sl k' (fun j => j < c) 18 v38 (q.2.drop n).length ((q.2.drop n).flatMap frC) := hv38.keep blk.keep
        obtain ⟨a', ha', hix', hld', _⟩ := Sl.at_ (f := frC) (l := q.2.drop n) hv' frC_len hmt
        obtain ⟨p, hp⟩ : ∃ p, p = (q.2.drop n)[m] := ⟨_, rfl⟩
        rw [← hp] at hld'
        have mp : p ∈ q.2 := List.mem_of_mem_drop (hp ▸ List.getElem_mem hmt)
        have op := hfq'.ok p mp
        have hmt2 : m < (plainF (q.2.drop n)).length := by simpa [plainF] using hmt
        have hpx : (plainF (q.2.drop n))[m] = p.1 := by simp [plainF, hp]
        have hpre := flat_le (g := frB) hmt2
        have hstep := take_flat (f := frB) hmt2
        rw [hpx] at hpre hstep
        have hwp := hwf p.1 (List.mem_map.2 ⟨p, mp, rfl⟩)
        obtain ⟨kA, hkA⟩ : ∃ kA, kA = (k'.push (.cells 64 frZ true 1 [])).set k'.next (.cells 64 (frC p) true 1 []) := ⟨_, rfl⟩
        have sA : Same (fun j => j < k'.next) k' kA := by rw [hkA]; exact Same.pushset
        have fA : kA.find k'.next = some (.cells 64 (frC p) true 1 []) := by rw [hkA]; exact find_set_same find_push_new
        have stA : ∀ {t : Tm} {a x : Opd}, a.ev t = .ptr k'.next 0 → x.ev t = .agg (frC p) → evOp (.store 18 a x) t (k'.push (.cells 64 frZ true 1 [])) = some (undefA, kA) := fun ha hx => by
          rw [hkA]; exact ev_storeN find_push_new ha hx (frC_len p) rfl (frC_cells op) (by decide)
        have alA : ∀ {t : Tm}, evOp (.alloc 64 frZ) t k' = some (.ptr k'.next 0, k'.push (.cells 64 frZ true 1 [])) := rfl
        have m18 : 0 + 18 ≤ (frC p).length := by rw [frC_len]; omega
        have n18 : ((frC p).drop 0).take 18 = frC p := rfl
        have hcn := hb'.lt.1
        (repeat (first | ((first | with_reducible apply Ev_op_of | with_reducible apply EvDn_op_of); (case hp => rfl); (case hv => first | ((with_reducible refine hix' _ _ _ .i64 ?_ ?_) <;> exact look (an g4' (an g7' (an g18' (an g19' (an g20' (an g38' (an g39' (an g40' hd'))))))))) | ((with_reducible refine ev_load ?_ hld') <;> exact look (an g4' (an g7' (an g18' (an g19' (an g20' (an g38' (an g39' (an g40' hd'))))))))) | ((with_reducible refine alA) <;> exact look (an g4' (an g7' (an g18' (an g19' (an g20' (an g38' (an g39' (an g40' hd'))))))))) | ((with_reducible refine stA ?_ ?_) <;> exact look (an g4' (an g7' (an g18' (an g19' (an g20' (an g38' (an g39' (an g40' hd'))))))))) | ((with_reducible refine ev_loadA fA m18 n18 ?_) <;> exact look (an g4' (an g7' (an g18' (an g19' (an g20' (an g38' (an g39' (an g40' hd'))))))))) | exact dfl2 (an g4' (an g7' (an g18' (an g19' (an g20' (an g38' (an g39' (an g40' hd')))))))))) | refine adm (an g4' (an g7' (an g18' (an g19' (an g20' (an g38' (an g39' (an g40' hd')))))))) ?_))
        refine Ev_call (by exact cal g4') (frame_ok (p := p) (hb'.of_same sA) (op.keep (sA.sub fun j hj => by omega).keep) hwp.1 (by simp only [List.length_append]; omega) hwp.2.1 hwp.2.2) ?_ (by rintro v h' ⟨e, _⟩; cases e)
        rintro r k3 ⟨e, o3, hb3, hw3⟩
        cases e
        (repeat (first | ((first | with_reducible apply Ev_op_of | with_reducible apply EvDn_op_of); (case hp => rfl); (case hv => exact dfl2 (an g40' hinc'))) | refine adm (an g40' hinc') ?_))
        refine ⟨rfl, ⟨m + 1, o3, hmt, by exact look g4', by exact look g7', by exact look g18', by exact look g19', by exact look g20', by exact look g38', by exact look g39', by exact look Bool.not_true, ?_, hW'.trans ((Wrote.of_same sA).trans hw3)⟩, by simp (decide := true) only [putD, getT_setT, if_true, g40', cntA_int, if_false]; exact cnt_step hmt⟩
        rw [hstep]; simpa [List.append_assoc] using hb3
      · have hd' := nlt_dec hmt
        have hmn : m = (q.2.drop n).length := by omega
        have hta : (plainF (q.2.drop n)).take m = plainF (q.2.drop n) := List.take_of_length_le (by simp [plainF]; omega)
        rw [hta] at hb'
        have hb'' : Buf k' c o' (acc ++ listB (plainF lp) (plainF q.2)) := by rw [hlB]; simpa [List.append_assoc] using hb'
        have hlb : (acc ++ listB (plainF lp) (plainF q.2)).length ≤ 33554432 := by rw [hlB]; simp only [List.length_append]; omega
        (repeat (first | ((first | with_reducible apply Ev_op_of | with_reducible apply EvDn_op_of); (case hp => rfl); (case hv => exact dfl2 (an g4' (an g7' (an g18' (an g19' (an g20' (an g38' (an g39' (an g40' hd')))))))))) | refine adm (an g4' (an g7' (an g18' (an g19' (an g20' (an g38' (an g39' (an g40' hd')))))))) ?_))
        refine Ev_call (by exact cal g4') (bufLen_ok hb'' (by omega)) ?_ (by rintro v h' ⟨e, _⟩; cases e)
        rintro r k3 ⟨e, ek⟩
        cases e
        have ek' := ek.symm
        subst ek'
        have sT' : Same (fun j => j < h.next) h k' := s0.trans ((hWh.below hb0).sub fun j hj => by rw [hc]; exact hj)
        by_cases hbig : 1048576 < (acc ++ listB (plainF lp) (plainF q.2)).length
        · have hdb : decide (1048576 < ((acc ++ listB (plainF lp) (plainF q.2)).length : Int)) = true := by simp only [decide_eq_true_eq]; omega
          rw [if_pos hbig] at henc
          (repeat (first | ((first | with_reducible apply Ev_op_of | with_reducible apply EvDn_op_of); (case hp => rfl); (case hv => exact dfl2 hdb)) | refine adm hdb ?_))
          (refine ⟨rfl, _, by exact ret Bool.not_true, ?_⟩)
          exact ⟨by unfold EncR; rw [← henc]; rfl, sT'⟩
        · have hdb : decide (1048576 < ((acc ++ listB (plainF lp) (plainF q.2)).length : Int)) = false := by simp only [decide_eq_false_iff_not]; omega
          rw [if_neg hbig] at henc
          (repeat (first | ((first | with_reducible apply Ev_op_of | with_reducible apply EvDn_op_of); (case hp => rfl); (case hv => exact dfl2 (an hdb (an g7' (an g20' hinc))))) | refine adm (an hdb (an g7' (an g20' hinc))) ?_))
          refine ⟨rfl, ⟨i + 1, o', acc ++ listB (plainF lp) (plainF q.2), q.1, q.2, hlt, by exact look g4', by exact look Bool.not_true, by exact look g18', by exact look g19', by exact look Bool.not_true, hb'', hWh, hfq2.keep blk.keep, hlf, by omega, by omega, henc⟩, by simp (decide := true) only [putD, getT_setT, if_true, g20, cntA_int, if_false]; exact cnt_step hlt⟩
  · have hd := nlt_dec hlt
    have hin : i = qs.length := by omega
    rw [List.drop_eq_nil_of_le (by rw [hlenM]; omega)] at henc
    simp only [encGo] at henc
    (repeat (first | ((first | with_reducible apply Ev_op_of | with_reducible apply EvDn_op_of); (case hp => rfl); (case hv => exact dfl2 (an g4 (an g5 (an g18 (an g19 (an g20 hd))))))) | refine adm (an g4 (an g5 (an g18 (an g19 (an g20 hd))))) ?_))
    refine Ev_call (by exact cal g4) (bufBytes_ok hb) ?_ (by rintro v h' ⟨⟨_, e, _⟩, _⟩; cases e)
    rintro r k1 ⟨⟨w, e, hw⟩, ek⟩
    cases e
    have ek' := ek.symm
    subst ek'
    (repeat (first | ((first | with_reducible apply Ev_op_of | with_reducible apply EvDn_op_of); (case hp => rfl); (case hv => exact dfl2 Bool.not_true)) | refine adm Bool.not_true ?_))
    (refine ⟨rfl, _, by exact ret Bool.not_true, ?_⟩)
    refine ⟨?_, sT⟩
    unfold EncR
    rw [← henc]
    exact ⟨_, rfl, hw.sub fun j hj _ => by have := hb.above j hj; omega⟩
end
end Go.AM

/- WHAT THE COPIES OF FRAMES DO. -/
namespace Go.AM
set_option maxRecDepth 10000
set_option linter.unusedSimpArgs false

section
variable {h h' : Heap} {S : Nat → Prop} {t : Tm}

theorem ev_eqsl {x y : Opd} {v : AV} {b : Bool} (he : eqA .slice v .nilslice = some b) (hx : x.ev t = v) (hy : y.ev t = .nilslice) : evOp (.bin .eql .slice x y) t h = some (.bool b, h) := by
  have : binA .eql .slice v .nilslice = (eqA .slice v .nilslice).map .bool := rfl
  simp only [evOp, hx, hy, this, he, Option.map_some]

theorem clone_ok {v : AV} {l : List SV} (hv : RdVals h S v l) (hl : l.length ≤ 9999999) : CallA progK (.fn 93) [v] h fun x h' => Same (fun j => j < h.next) h h' ∧ ∃ v', x = .ret v' ∧ RdVals h' (fun j => h.next ≤ j) v' l ∧ notP v' := by
  refine CallA_body (by rfl) ?_
  by_cases hn : v = .nilslice
  · subst hn
    have h0 : l = [] := by
      have := hv.rd.1
      simp only [lenA, Option.some.injEq] at this
      exact List.eq_nil_of_length_eq_zero this.symm
    subst h0
    have he : eqA .slice .nilslice .nilslice = some true := rfl
    (repeat (first | ((first | with_reducible apply Ev_op_of | with_reducible apply EvDn_op_of); (case hp => rfl); (case hv => exact dfl2 he)) | refine adm he ?_))
    (refine ⟨rfl, _, by exact ret Bool.not_true, ?_⟩)
    exact ⟨Same.refl, .nilslice, rfl, ⟨reads0 rfl (by simp), trivial⟩, (by intro cs o n c e; cases e)⟩
  · have he : eqA .slice v .nilslice = some false := by
      have h1 := hv.rd.1
      have h2 := hv.rd.2.2.1
      cases v <;> simp only [lenA, reduceCtorEq] at h1 <;> first | rfl | exact absurd rfl hn | exact absurd rfl (h2 _)
    have bl : ∀ {t : Tm}, evOp (.buildSlice 61 [] 6 0 []) t h = some (.slice h.next 0 0 (some 0) 6, h.push (.cells 61 [] true 1 [])) := rfl
    have hv1 := Sl.keep hv (Same.push (S := S) (o := AObj.cells 61 [] true 1 [])).keep
    have hf := find_push_new (h := h) (o := AObj.cells 61 [] true 1 [])
    by_cases h0 : l = []
    · subst h0
      have ap : ∀ {t : Tm} {s x : Opd} {zero : List AV}, s.ev t = .slice h.next 0 0 (some 0) 6 → x.ev t = v → evOp (.append .slice 61 6 56 zero s x) t (h.push (.cells 61 [] true 1 [])) = some (.slice h.next 0 0 (some 0) 6, h.push (.cells 61 [] true 1 [])) := fun hs hx => by
        have h1 : lenA v = some 0 := hv.rd.1
        have h2 : sourceA (h.push (.cells 61 [] true 1 [])) 6 v 0 = some [] := hv1.source
        simp only [evOp, hs, hx, h1, h2]
        rfl
      (repeat (first | ((first | with_reducible apply Ev_op_of | with_reducible apply EvDn_op_of); (case hp => rfl); (case hv => first | ((with_reducible refine ev_eqsl he ?_ ?_) <;> exact look Bool.not_true) | ((with_reducible refine bl) <;> exact look Bool.not_true) | ((with_reducible refine ap ?_ ?_) <;> exact look Bool.not_true) | exact dfl2 Bool.not_true)) | refine adm Bool.not_true ?_))
      (refine ⟨rfl, _, by exact ret Bool.not_true, ?_⟩)
      have hs : Sl (h.push (.cells 61 [] true 1 [])) (fun j => h.next ≤ j) 6 (.slice h.next 0 0 (some 0) 6) 0 [] := ⟨reads0 rfl (by simp), Nat.le_refl _, rfl, (by intro k hk; omega), [], cellsAt_of hf⟩
      exact ⟨Same.push, .slice h.next 0 0 (some 0) 6, rfl, hs, (by intro cs o n c e; cases e)⟩
    · have hpos : 0 < l.length := List.length_pos_iff.2 h0
      have hac : allCells (l.flatMap svC) = true := by
        clear hv hl he hv1 hf h0 hpos bl
        induction l with
        | nil => rfl
        | cons x l ih =>
          rw [List.flatMap_cons]
          simp only [svC, List.cons_append, List.nil_append, allCells]
          exact ih
      have hlf : (l.flatMap svC).length = l.length * 6 := flat_length svC_len l
      have ap : ∀ {t : Tm} {s x : Opd} {zero : List AV}, s.ev t = .slice h.next 0 0 (some 0) 6 → x.ev t = v → evOp (.append .slice 61 6 56 zero s x) t (h.push (.cells 61 [] true 1 [])) = some (.slice (h.next + 1) 0 l.length none 6, (h.push (.cells 61 [] true 1 [])).push (.cells 61 (l.flatMap svC) true 1 [])) := fun hs hx => by
        have h1 : lenA v = some l.length := hv.rd.1
        have h2 : sourceA (h.push (.cells 61 [] true 1 [])) 6 v l.length = some (l.flatMap svC) := hv1.source
        have h3 : readAt (h.push (.cells 61 [] true 1 [])) h.next 0 (0 * 6) = some [] := by simp only [readAt, hf]; rfl
        simp only [evOp, hs, hx, h1, h2, appendA]
        rw [if_pos ⟨hac, hlf⟩]
        simp only [ne_eq, not_true_eq_false, if_false]
        rw [if_neg (by omega), if_neg (by omega), if_pos (by unfold roomA; omega), h3]
        simp only [List.nil_append, alloc_push, Nat.zero_add]
        rfl
      (repeat (first | ((first | with_reducible apply Ev_op_of | with_reducible apply EvDn_op_of); (case hp => rfl); (case hv => first | ((with_reducible refine ev_eqsl he ?_ ?_) <;> exact look Bool.not_true) | ((with_reducible refine bl) <;> exact look Bool.not_true) | ((with_reducible refine ap ?_ ?_) <;> exact look Bool.not_true) | exact dfl2 Bool.not_true)) | refine adm Bool.not_true ?_))
      (refine ⟨rfl, _, by exact ret Bool.not_true, ?_⟩)
      have hs : Sl ((h.push (.cells 61 [] true 1 [])).push (.cells 61 (l.flatMap svC) true 1 [])) (fun j => h.next ≤ j) 6 (.slice (h.next + 1) 0 l.length none 6) l.length (l.flatMap svC) := Sl.fresh (h := h.push (.cells 61 [] true 1 [])) (by rw [push_next]; omega) hlf (by intro k hk; cases hk)
      exact ⟨Same.push.trans Same.push, .slice (h.next + 1) 0 l.length none 6, rfl, hs, (by intro cs o n c e; cases e)⟩


set_option maxHeartbeats 4000000 in
theorem copyFr_ok {p : FP} (hp : FrOK h S p) (hnp : notP p.2.2) (hl : lens p.1) : CallA progK (.fn 92) [.agg (frC p)] h fun x h' => Same (fun j => j < h.next) h h' ∧ ∃ q : FP, x = .ret (.agg (frC q)) ∧ q.1 = p.1 ∧ FrOK h' (fun j => h.next ≤ j) q ∧ notP q.2.2 := by
  refine CallA_body (by rfl) ?_
  obtain ⟨b1, hb1⟩ : ∃ b1, b1 = h.next := ⟨_, rfl⟩
  obtain ⟨k0, hk0⟩ : ∃ k0, k0 = (h.push (.cells 64 (frC p) true 1 [])).push (.cells 64 frZ true 1 []) := ⟨_, rfl⟩
  have n0 : k0.next = b1 + 2 := by rw [hk0, hb1]; rfl
  have s0 : Same (fun j => j < h.next) h k0 := by rw [hk0]; exact Same.push.trans Same.push
  have f1 : k0.find b1 = some (.cells 64 (frC p) true 1 []) := by rw [hk0, hb1]; exact find_push_old find_push_new
  have f2 : k0.find (b1 + 1) = some (.cells 64 frZ true 1 []) := by rw [hk0, hb1]; exact find_push_new (h := h.push (.cells 64 (frC p) true 1 []))
  have bx : ∀ {t : Tm} {x : Opd}, x.ev t = .agg (frC p) → evOp (.box 64 x) t h = some (.ptr b1 0, h.push (.cells 64 (frC p) true 1 [])) := fun hx => by rw [hb1]; exact ev_boxFr hp hx
  have al : ∀ {t : Tm}, evOp (.alloc 64 frZ) t (h.push (.cells 64 (frC p) true 1 [])) = some (.ptr (b1 + 1) 0, k0) := by intro t; rw [hk0, hb1]; rfl
  have p0 : FrOK k0 (fun j => j < h.next) p := FrOK.keep ⟨hp.1.sub fun j _ hj => hj, hp.2.sub fun j _ hj => hj⟩ s0.keep
  (repeat (first | ((first | with_reducible apply Ev_op_of | with_reducible apply EvDn_op_of); (case hp => rfl); (case hv => first | ((with_reducible refine bx ?_) <;> exact look Bool.not_true) | ((with_reducible refine al) <;> exact look Bool.not_true) | ((with_reducible refine ev_loadP (c := b1) (o := 14) f1 rfl ?_) <;> exact look Bool.not_true) | ((with_reducible refine ev_loadP (c := b1) (o := 15) f1 rfl ?_) <;> exact look Bool.not_true) | exact dfl2 Bool.not_true)) | refine adm Bool.not_true ?_))
  refine EvDn_abs (fun t => getT t 1 = .ptr b1 0 ∧ getT t 2 = .ptr (b1 + 1) 0 ∧ getT t 4 = p.2.1 ∧ getT t 6 = .ptr b1 15 ∧ getT t 7 = p.2.2) ⟨by exact look Bool.not_true, by exact look Bool.not_true, by exact look Bool.not_true, by exact look Bool.not_true, by exact look Bool.not_true⟩ ?_
  rintro t ⟨g1, g2, g4, g6, g7⟩
  refine EvDn_call (P := fun v h' => Same (fun j => j < k0.next) k0 h' ∧ RdVals h' (fun j => k0.next ≤ j) v p.1.vars) (by exact cal g4) ((clone_ok p0.1 hl.1).mono fun x h' hx => ⟨_, hx.2.choose_spec.1, hx.1, hx.2.choose_spec.2.1⟩) ?_
  rintro w1 k1 ⟨s1, V1⟩
  have f11 := s1.find (j := b1) (by omega) f1
  have f21 := s1.find (j := b1 + 1) (by omega) f2
  have p1 : FrOK k1 (fun j => j < h.next) p := p0.keep (s1.sub fun j hj => by omega).keep
  refine ⟨?_, ?_⟩
  · have e6 : (Opd.t 6).ev (putD t (some 5) w1) = .ptr b1 15 := by exact look g6
    have e7 : getT (putD t (some 5) w1) 7 = p.2.2 := by exact look g7
    have el := ev_loadP (c := b1) (o := 15) (x := .t 6) f11 rfl e6
    simp only [checks, wantedA, el, e7, Bool.and_true]
    exact sameA_sl (Sl.rd p1.2) hnp
  (repeat (first | ((first | with_reducible apply Ev_op_of | with_reducible apply EvDn_op_of); (case hp => rfl); (case hv => exact dfl2 g1)) | refine adm g1 ?_))
  refine EvDn_call (P := fun v h' => Same (fun j => j < k1.next) k1 h' ∧ RdVals h' (fun j => k1.next ≤ j) v p.1.stack ∧ notP v) (by exact cal g7) ((clone_ok p1.2 hl.2).mono fun x h' hx => ⟨_, hx.2.choose_spec.1, hx.1, hx.2.choose_spec.2⟩) ?_
  rintro w2 k2 ⟨s2, V2, P2⟩
  have x1 := s1.next
  have x2 := s2.next
  have f12 := s2.find (j := b1) (by omega) f11
  have f22 := s2.find (j := b1 + 1) (by omega) f21
  have V12 : RdVals k2 (fun j => k0.next ≤ j ∧ j < k1.next) w1 p.1.vars := (V1.sub fun j hj hlt => ⟨hj, hlt⟩).keep (s2.sub fun j hj => hj.2).keep
  have c1 := cell_of_rd (Sl.rd V1)
  have c2 := cell_of_rd (Sl.rd V2)
  obtain ⟨q, hq⟩ : ∃ q : FP, q = (p.1, w1, w2) := ⟨_, rfl⟩
  obtain ⟨k3, hk3⟩ : ∃ k3, k3 = k2.set b1 (.cells 64 (frC (p.1, w1, p.2.2)) true 1 []) := ⟨_, rfl⟩
  have st3 : ∀ {t : Tm} {a x : Opd}, a.ev t = .ptr b1 14 → x.ev t = w1 → evOp (.store 1 a x) t k2 = some (undefA, k3) := fun ha hx => by rw [hk3]; exact ev_storeP f12 ha hx (isCell_cells c1) c1 (by rw [frC_len]; omega) (by omega)
  have f13 : k3.find b1 = some (.cells 64 (frC (p.1, w1, p.2.2)) true 1 []) := by rw [hk3]; exact find_set_same f12
  have t3 : Same (fun j => j ≠ b1) k2 k3 := by rw [hk3]; exact Same.set f12 (fun j hj => hj)
  have f23 := t3.find (j := b1 + 1) (by omega) f22
  obtain ⟨k4, hk4⟩ : ∃ k4, k4 = k3.set b1 (.cells 64 (frC q) true 1 []) := ⟨_, rfl⟩
  have st4 : ∀ {t : Tm} {a x : Opd}, a.ev t = .ptr b1 15 → x.ev t = w2 → evOp (.store 1 a x) t k3 = some (undefA, k4) := fun ha hx => by rw [hk4, hq]; exact ev_storeP f13 ha hx (isCell_cells c2) c2 (by rw [frC_len]; omega) (by omega)
  have f14 : k4.find b1 = some (.cells 64 (frC q) true 1 []) := by rw [hk4]; exact find_set_same f13
  have t4 : Same (fun j => j ≠ b1) k3 k4 := by rw [hk4]; exact Same.set f13 (fun j hj => hj)
  have f24 := t4.find (j := b1 + 1) (by omega) f23
  have oq : FrOK k4 (fun j => k0.next ≤ j) q := by
    rw [hq]
    exact ⟨((V12.sub fun j hj _ => hj.1).keep (t3.sub fun j hj => by omega).keep).keep (t4.sub fun j hj => by omega).keep, ((V2.sub (S' := fun j => k0.next ≤ j) fun j hj _ => by omega).keep (t3.sub fun j hj => by omega).keep).keep (t4.sub fun j hj => by omega).keep⟩
  obtain ⟨k5, hk5⟩ : ∃ k5, k5 = k4.set (b1 + 1) (.cells 64 (frC q) true 1 []) := ⟨_, rfl⟩
  have ld5 : ∀ {t : Tm} {x : Opd}, x.ev t = .ptr b1 0 → evOp (.load true 18 x) t k4 = some (.agg (frC q), k4) := fun hx => ev_loadA f14 (by rw [frC_len]; omega) rfl hx
  have st5 : ∀ {t : Tm} {a x : Opd}, a.ev t = .ptr (b1 + 1) 0 → x.ev t = .agg (frC q) → evOp (.store 18 a x) t k4 = some (undefA, k5) := fun ha hx => by rw [hk5]; exact ev_storeN f24 ha hx (frC_len q) rfl (frC_cells oq) (by decide)
  have f25 : k5.find (b1 + 1) = some (.cells 64 (frC q) true 1 []) := by rw [hk5]; exact find_set_same f24
  have t5 : Same (fun j => j ≠ b1 + 1) k4 k5 := by rw [hk5]; exact Same.set f24 (fun j hj => hj)
  refine ⟨rfl, ?_⟩
  (repeat (first | ((first | with_reducible apply Ev_op_of | with_reducible apply EvDn_op_of); (case hp => rfl); (case hv => first | ((with_reducible refine st3 ?_ ?_) <;> exact look (an g1 (an g2 g7))) | ((with_reducible refine st4 ?_ ?_) <;> exact look (an g1 (an g2 g7))) | ((with_reducible refine ld5 ?_) <;> exact look (an g1 (an g2 g7))) | ((with_reducible refine st5 ?_ ?_) <;> exact look (an g1 (an g2 g7))) | exact dfl2 (an g1 (an g2 g7)))) | refine adm (an g1 (an g2 g7)) ?_))
  refine ⟨rfl, _, res_cell (by exact look g2) f25 (frC_len q), ?_⟩
  refine ⟨?_, q, rfl, by rw [hq], (oq.keep (t5.sub fun j hj => by omega).keep).sub fun j hj _ => by omega, by rw [hq]; exact P2⟩
  exact (((s0.trans (s1.sub fun j hj => by omega)).trans (s2.sub fun j hj => by omega)).trans (t3.sub fun j hj => by omega)).trans ((t4.sub fun j hj => by omega).trans (t5.sub fun j hj => by omega))
end
end Go.AM

/- WHAT THE COPIES OF LISTS OF FRAMES DO. -/
namespace Go.AM
set_option maxRecDepth 10000
set_option linter.unusedSimpArgs false

section
variable {h h' : Heap} {S : Nat → Prop} {t : Tm}

theorem Sl.keepB {e n : Nat} {v : AV} {cs : List AV} (hp : Sl h S e v n cs) (hs : Same (fun j => j < h.next) h h') : Sl h' S e v n cs :=
  ((hp.sub (S' := fun j => S j ∧ j < h.next) fun j hj hl => ⟨hj, hl⟩).keep (hs.sub fun j hj => hj.2).keep).sub fun j hj _ => hj.1
theorem FrOK.keepB {p : FP} (hp : FrOK h S p) (hs : Same (fun j => j < h.next) h h') : FrOK h' S p := ⟨Sl.keepB hp.1 hs, Sl.keepB hp.2 hs⟩
theorem RdFrs.keepB {v : AV} {ps : List FP} (hp : RdFrs h S v ps) (hs : Same (fun j => j < h.next) h h') : RdFrs h' S v ps := ⟨hp.sl.keepB hs, fun p hm => (hp.ok p hm).keepB hs⟩
theorem Own.sameB {ty e n : Nat} {v : AV} {cs : List AV} (ho : Own h S ty e v n cs) (hs : Same (fun j => j < h.next) h h') : Own h' S ty e v n cs :=
  (Own.same (S := fun j => S j ∧ j < h.next) (ho.sub fun j hj hl => ⟨hj, hl⟩) (hs.sub fun j hj => hj.2)).sub fun j hj _ => hj.1

/-- a list of frames of one's own -/
structure OwnFrs (h : Heap) (S : Nat → Prop) (v : AV) (qs : List FP) : Prop where
  own : Own h S 64 18 v qs.length (qs.flatMap frC)
  ok : ∀ q ∈ qs, FrOK h S q ∧ notP q.2.2

theorem OwnFrs.rd {v : AV} {qs : List FP} (ho : OwnFrs h S v qs) : RdFrs h S v qs := ⟨ho.own.sl, fun q hq => (ho.ok q hq).1⟩
theorem OwnFrs.sameB {v : AV} {qs : List FP} (ho : OwnFrs h S v qs) (hs : Same (fun j => j < h.next) h h') : OwnFrs h' S v qs := ⟨ho.own.sameB hs, fun q hq => ⟨(ho.ok q hq).1.keepB hs, (ho.ok q hq).2⟩⟩
theorem OwnFrs.sub {S' : Nat → Prop} {v : AV} {qs : List FP} (ho : OwnFrs h S v qs) (hS : ∀ j, S j → j < h.next → S' j) : OwnFrs h S' v qs := ⟨ho.own.sub hS, fun q hq => ⟨(ho.ok q hq).1.sub hS, (ho.ok q hq).2⟩⟩

/-- one frame more -/
theorem OwnFrs.append {v : AV} {qs : List FP} {q : FP} (ho : OwnFrs h S v qs) (hq : FrOK h S q) (hn : notP q.2.2) (hS : ∀ j, h.next ≤ j → S j) (hl : qs.length ≤ 9999999) :
    ∃ v' h', (∀ (t : Tm) (s x : Opd), s.ev t = v → x.ev t = .slice h.next 0 1 (some 1) 18 → evOp (.append .slice 64 18 192 frZ s x) t (h.push (.cells 64 (frC q) true 1 [])) = some (v', h')) ∧ OwnFrs h' S v' (qs ++ [q]) ∧ (∀ S', (∀ j, S' j → ¬ S j) → Same S' h h') ∧ (∀ S', Keep S' h h') := by
  have o1 : Own (h.push (.cells 64 (frC q) true 1 [])) S 64 18 v qs.length (qs.flatMap frC) := ho.own.same Same.push
  have sl : Sl (h.push (.cells 64 (frC q) true 1 [])) S 18 (.slice h.next 0 1 (some 1) 18) 1 (frC q) := Sl.fresh (hS _ (Nat.le_refl _)) (frC_len q) (by intro k hk; cases hk; omega)
  obtain ⟨v', h', ap, own', kp, sm⟩ := o1.appendF (bytes := 192) (zero := frZ) (u := .slice h.next 0 1 (some 1) 18) (m := 1) rfl sl.source (frC_cells hq) (frC_len q) (by omega) (by omega) (by unfold roomA; omega) (hS _ (by rw [push_next]; omega))
  have kk : ∀ S', Keep S' h h' := fun S' => Keep.trans (Same.push.keep) (kp S')
  refine ⟨v', h', ap, ⟨by simpa using own', fun p hp => ?_⟩, fun S' hS' => Same.push.trans (sm S' hS'), kk⟩
  rcases List.mem_append.1 hp with h1 | h1
  · exact ⟨(ho.ok p h1).1.keep (kk _), (ho.ok p h1).2⟩
  · rw [List.mem_singleton] at h1; rw [h1]
    exact ⟨hq.keep (kk _), hn⟩

theorem ev_buildFr {q : FP} {a : Opd} (hq : FrOK h S q) (ha : a.ev t = .agg (frC q)) : evOp (.buildSlice 64 frZ 18 1 [(0, a)]) t h = some (.slice h.next 0 1 (some 1) 18, h.push (.cells 64 (frC q) true 1 [])) := ev_build1 (v := .agg (frC q)) ha rfl (frC_len q) (frC_cells hq)

set_option maxHeartbeats 4000000 in
theorem mapped_ok {v : AV} {ps : List FP} (hr : RdFrs h S v ps) (hl : ps.length ≤ 9999999) (hp : ∀ p ∈ ps, lens p.1 ∧ notP p.2.2) :
    CallA progK (.fn 91) [v, .func 92 [] []] h fun x h' => Same (fun j => j < h.next) h h' ∧ ∃ v' qs, x = .ret v' ∧ plainF qs = plainF ps ∧ OwnFrs h' (fun j => h.next ≤ j) v' qs := by
  refine CallA_body (by rfl) ?_
  have rv : Reads h 18 v ps.length (ps.flatMap frC) := Sl.rd hr.sl
  (repeat (first | ((first | with_reducible apply Ev_op_of | with_reducible apply EvDn_op_of); (case hp => rfl); (case hv => first | ((with_reducible refine ev_len ?_ rv) <;> exact look Bool.not_true) | exact dfl2 Bool.not_true)) | refine adm Bool.not_true ?_))
  refine Ev_loopH (fun t k => ∃ (i : Nat) (ov : AV) (out : List FP), i ≤ ps.length ∧ getT t 1 = .func 92 [] [] ∧ getT t 5 = ov ∧ getT t 8 = v ∧ getT t 9 = .int .i64 ps.length ∧ getT t 10 = .int .i64 i ∧ Same (fun j => j < h.next) h k ∧ out.length = i ∧ plainF out = (plainF ps).take i ∧ OwnFrs k (fun j => h.next ≤ j) ov out)
    (fun t _ => cntA ps.length (getT t 10)) ⟨0, .nilslice, [], Nat.zero_le _, by exact look Bool.not_true, by exact look Bool.not_true, by exact look Bool.not_true, by exact look Bool.not_true, (by exact look Int.natCast_zero), Same.refl, rfl, rfl, ⟨Own.nil, fun q hq => by cases hq⟩⟩ ?_
  rintro t k ⟨i, ov, out, hi, g1, g5, g8, g9, g10, hsk, ho, hpl, hown⟩
  by_cases hlt : i < ps.length
  · have hd := lt_dec hlt
    have hinc := inc_nat hlt (by omega)
    have hnk := hsk.next
    have hrk : RdFrs k S v ps := hr.keepB hsk
    obtain ⟨a, ha, hix, hld, _⟩ := Sl.at_ (f := frC) (l := ps) hrk.sl frC_len hlt
    obtain ⟨p, hpe⟩ : ∃ p, p = ps[i] := ⟨_, rfl⟩
    rw [← hpe] at hld
    have mp : p ∈ ps := hpe ▸ List.getElem_mem hlt
    have op := hrk.ok p mp
    obtain ⟨kA, hkA⟩ : ∃ kA, kA = (k.push (.cells 64 frZ true 1 [])).set k.next (.cells 64 (frC p) true 1 []) := ⟨_, rfl⟩
    have sA : Same (fun j => j < k.next) k kA := by rw [hkA]; exact Same.pushset
    have fA : kA.find k.next = some (.cells 64 (frC p) true 1 []) := by rw [hkA]; exact find_set_same find_push_new
    have stA : ∀ {t : Tm} {a x : Opd}, a.ev t = .ptr k.next 0 → x.ev t = .agg (frC p) → evOp (.store 18 a x) t (k.push (.cells 64 frZ true 1 [])) = some (undefA, kA) := fun ha hx => by
      rw [hkA]; exact ev_storeN find_push_new ha hx (frC_len p) rfl (frC_cells op) (by decide)
    have alA : ∀ {t : Tm}, evOp (.alloc 64 frZ) t k = some (.ptr k.next 0, k.push (.cells 64 frZ true 1 [])) := rfl
    have ldA : ∀ {t : Tm} {x : Opd}, x.ev t = .ptr k.next 0 → evOp (.load true 18 x) t kA = some (.agg (frC p), kA) := fun hx => ev_loadA fA (by rw [frC_len]; omega) rfl hx
    (repeat (first | ((first | with_reducible apply Ev_op_of | with_reducible apply EvDn_op_of); (case hp => rfl); (case hv => first | ((with_reducible refine hix _ _ _ .i64 ?_ ?_) <;> exact look (an g1 (an g5 (an g8 (an g9 (an g10 hd)))))) | ((with_reducible refine ev_load ?_ hld) <;> exact look (an g1 (an g5 (an g8 (an g9 (an g10 hd)))))) | ((with_reducible refine alA) <;> exact look (an g1 (an g5 (an g8 (an g9 (an g10 hd)))))) | ((with_reducible refine stA ?_ ?_) <;> exact look (an g1 (an g5 (an g8 (an g9 (an g10 hd)))))) | ((with_reducible refine ldA ?_) <;> exact look (an g1 (an g5 (an g8 (an g9 (an g10 hd)))))) | exact dfl2 (an g1 (an g5 (an g8 (an g9 (an g10 hd))))))) | refine adm (an g1 (an g5 (an g8 (an g9 (an g10 hd))))) ?_))
    refine Ev_call (by exact cal g1) (copyFr_ok (op.keepB sA) (hp p mp).2 (hp p mp).1) ?_ (by rintro v h' ⟨_, _, e, _⟩; cases e)
    rintro x k1 ⟨hs1, q, ex, hq1, hq2, hq3⟩
    cases ex
    have xA := sA.next
    have own1 := (hown.sameB sA).sameB hs1
    have hq2' : FrOK k1 (fun j => h.next ≤ j) q := hq2.sub fun j hj _ => by omega
    have x1 := hs1.next
    obtain ⟨v2, k2, ap2, own2, sm2, _⟩ := own1.append hq2' hq3 (fun j hj => by omega) (by omega)
    have s2 : Same (fun j => j < h.next) k1 k2 := sm2 _ (fun j hj hj2 => by omega)
    (repeat (first | ((first | with_reducible apply Ev_op_of | with_reducible apply EvDn_op_of); (case hp => rfl); (case hv => first | ((with_reducible refine ev_buildFr hq2' ?_) <;> exact look (an g1 (an g5 (an g10 hinc)))) | ((with_reducible refine ap2 _ _ _ ?_ ?_) <;> exact look (an g1 (an g5 (an g10 hinc)))) | exact dfl2 (an g1 (an g5 (an g10 hinc))))) | refine adm (an g1 (an g5 (an g10 hinc))) ?_))
    refine ⟨rfl, ⟨i + 1, v2, out ++ [q], hlt, by exact look g1, by exact look Bool.not_true, by exact look g8, by exact look g9, by exact look Bool.not_true, ?_, by simp [ho], ?_, own2⟩, by simp (decide := true) only [putD, getT_setT, if_true, g10, cntA_int, if_false]; exact Nat.sub_lt_sub_left hlt (Nat.lt_succ_self i)⟩
    · exact ((hsk.trans (sA.sub fun j hj => by omega)).trans (hs1.sub fun j hj => by omega)).trans s2
    · have hlt2 : i < (plainF ps).length := by simpa [plainF] using hlt
      have : plainF (out ++ [q]) = plainF out ++ [q.1] := by simp [plainF]
      rw [this, hpl, List.take_succ_eq_append_getElem hlt2]
      simp [plainF, hq1, hpe]
  · have hd := nlt_dec hlt
    have hin : i = ps.length := by omega
    (repeat (first | ((first | with_reducible apply Ev_op_of | with_reducible apply EvDn_op_of); (case hp => rfl); (case hv => exact dfl2 (an g1 (an g5 (an g8 (an g9 (an g10 hd))))))) | refine adm (an g1 (an g5 (an g8 (an g9 (an g10 hd))))) ?_))
    (refine ⟨rfl, _, by exact ret Bool.not_true, ?_⟩)
    refine ⟨hsk, ov, out, rfl, ?_, hown⟩
    rw [hpl, hin, List.take_of_length_le (by simp [plainF])]

theorem copied_ok {v : AV} {ps : List FP} (hr : RdFrs h S v ps) (hl : ps.length ≤ 9999999) (hp : ∀ p ∈ ps, lens p.1 ∧ notP p.2.2) :
    CallA progK (.fn 53) [v] h fun x h' => Same (fun j => j < h.next) h h' ∧ ∃ v' qs, x = .ret v' ∧ plainF qs = plainF ps ∧ OwnFrs h' (fun j => h.next ≤ j) v' qs := by
  refine CallA_body (by rfl) ?_
  (repeat (first | ((first | with_reducible apply Ev_op_of | with_reducible apply EvDn_op_of); (case hp => rfl); (case hv => exact dfl2 Bool.not_true)) | refine adm Bool.not_true ?_))
  refine Ev_call (by exact cal Bool.not_true) (mapped_ok hr hl hp) ?_ (by rintro v h' ⟨_, _, _, e, _⟩; cases e)
  rintro x k ⟨hs, v', qs, e, h1, h2⟩
  cases e
  (repeat (first | ((first | with_reducible apply Ev_op_of | with_reducible apply EvDn_op_of); (case hp => rfl); (case hv => exact dfl2 Bool.not_true)) | refine adm Bool.not_true ?_))
  (refine ⟨rfl, _, by exact ret Bool.not_true, ?_⟩)
  exact ⟨hs, _, qs, rfl, h1, h2⟩
end
end Go.AM
