/- ScopeKept, of lists of frames and bytes. -/
import Derived.Test.YtlpnnoojgbhfaaaGreatDoorGo
import Derived.Test.YtlpnnoojgbhfaaaGreatDoorSe
set_option linter.all false
namespace Go.AM
set_option maxRecDepth 10000
set_option linter.unusedSimpArgs false

theorem encOK_of_dec {b : List UInt8} {m : List (List SF)} (hb : b.length ≤ 1048576) (h : dec b = some m) : EncOK m := by
  unfold dec at h
  split at h <;> try (cases h; done)
  rename_i m' y e1
  split at h <;> try (cases h; done)
  cases h
  obtain ⟨a1, a2⟩ := rdLists_len hb e1
  have a3 := rdLists_lens hb e1
  exact ⟨fun fs hfs f hf => ⟨(a1 fs hfs).1 f hf, a3 fs hfs f hf⟩, by omega, fun fs hfs => (a1 fs hfs).2⟩

theorem encGo_le : ∀ {l : List (List SF)} {last : List SF} {acc x : List UInt8}, acc.length ≤ 1048576 → encGo last acc l = some x → x.length ≤ 1048576
  | [], _, acc, x, ha, h => by simp only [encGo, Option.some.injEq] at h; rw [← h]; exact ha
  | fs :: l, last, acc, x, ha, h => by
    simp only [encGo] at h
    split at h
    · cases h
    · split at h
      · cases h
      · exact encGo_le (by omega) h

theorem enc_le {l : List (List SF)} {x : List UInt8} (hl : l.length ≤ 9999999) (h : enc l = some x) : x.length ≤ 1048576 := encGo_le (by have := numB_nat hl; omega) h

theorem dyL {a b c : Nat} (h : c ≤ a + 6 * b + 1) : decide (((a + 16 * b + 1 : Nat) : Int) < (c : Int)) = false := by
  simp only [decide_eq_false_iff_not]; omega

def dupQ : List LP → List LP
  | [] => []
  | q :: l => q :: q :: dupQ l
theorem dupQ_plain : ∀ l : List LP, plainL (dupQ l) = dup (plainL l)
  | [] => rfl
  | q :: l => by
    have := dupQ_plain l
    simp only [plainL] at this
    simp only [dupQ, plainL, List.map_cons, dup, this]
theorem dupQ_length : ∀ l : List LP, (dupQ l).length = 2 * l.length
  | [] => rfl
  | q :: l => by simp only [dupQ, List.length_cons, dupQ_length l]; omega
theorem dupQ_mem : ∀ {l : List LP} {q : LP}, q ∈ dupQ l → q ∈ l
  | x :: l, q, h => by
    simp only [dupQ, List.mem_cons] at h ⊢
    rcases h with h | h | h
    · exact .inl h
    · exact .inl h
    · exact .inr (dupQ_mem h)
theorem dupQ_append : ∀ (l : List LP) (q : LP), dupQ (l ++ [q]) = dupQ l ++ [q, q]
  | [], q => rfl
  | x :: l, q => by simp only [List.cons_append, dupQ, dupQ_append l q]
theorem dup_mem : ∀ {l : List (List SF)} {q : List SF}, q ∈ dup l → q ∈ l
  | x :: l, q, h => by
    simp only [dup, List.mem_cons] at h ⊢
    rcases h with h | h | h
    · exact .inl h
    · exact .inl h
    · exact .inr (dup_mem h)

section
variable {h h' : Heap} {S S' : Nat → Prop} {b x : List UInt8} {t : Tm}

theorem ev_b2v {v : AV} {x0 x1 : Opd} (hc : v.isCell = true) (h0 : x0.ev t = v) (h1 : x1.ev t = v) : evOp (.buildSlice 32 [.nilslice, .nilslice] 1 2 [(0, x0), (1, x1)]) t h = some (.slice h.next 0 2 (some 2) 1, h.push (.cells 32 [v, v] true 1 [])) := by
  have c1 := isCell_cells hc
  have ha : allCells [v] = true := by simp [allCells, hc]
  simp only [evOp, evPartsS, h0, h1, fillA, c1, ha, List.length_cons, List.length_nil, Nat.zero_mul, Nat.one_mul, Nat.zero_add, and_self, if_true, over]
  rfl

set_option maxHeartbeats 16000000 in
theorem scopeKept_ok {v w : AV} {qs : List LP} (hv : RdLs h S v qs) (hw : Sl h S' 1 w b.length (b.map byteA)) (hM : EncOK (plainL qs)) (hql : ∀ q ∈ qs, q.2.length ≤ 9999999) (hb : b.length ≤ 1048576) :
    CallA progK (.fn 3) [v, w] h fun r _ => r = .ret (.bool true) := by
  refine CallA_body (by rfl) ?_
  have hlM : (plainL qs).length = qs.length := by simp [plainL]
  have hlen : qs.length ≤ 9999999 := by have := hM.len; omega
  have hq : ∀ q ∈ qs, q.2.length ≤ 9999999 ∧ ∀ p ∈ q.2, lens p.1 := fun q hm => ⟨hql q hm, fun p hp => (hM.wf _ (List.mem_map.2 ⟨q, hm, rfl⟩) p.1 (List.mem_map.2 ⟨p, hp, rfl⟩)).2⟩
  have rw_ : Reads h 1 w b.length (b.map byteA) := Sl.rd hw
  (repeat (first | ((first | with_reducible apply Ev_op_of | with_reducible apply EvDn_op_of); (case hp => rfl); (case hv => exact dfl2 Bool.not_true)) | refine adm Bool.not_true ?_))
  refine Ev_call (by exact cal Bool.not_true) awake_call ?_ (by rintro v h' ⟨e, _⟩; cases e)
  rintro u k ⟨e, eh⟩
  cases e
  have eh' := eh.symm
  subst eh'
  (repeat (first | ((first | with_reducible apply Ev_op_of | with_reducible apply EvDn_op_of); (case hp => rfl); (case hv => exact dfl2 Bool.not_true)) | refine adm Bool.not_true ?_))
  refine Ev_call (by exact cal Bool.not_true) (weight_ok hv hlen hq) ?_ (by rintro v h' ⟨⟨_, e, _⟩, _⟩; cases e)
  rintro u k ⟨⟨W, e, hW⟩, eh⟩
  cases e
  have eh' := eh.symm
  subst eh'
  by_cases h3 : 3000 < W
  · have d3 : decide (3000 < (W : Int)) = true := by simp; omega
    (repeat (first | ((first | with_reducible apply Ev_op_of | with_reducible apply EvDn_op_of); (case hp => rfl); (case hv => exact dfl2 d3)) | refine adm d3 ?_))
    (refine ⟨rfl, _, by exact ret Bool.not_true, ?_⟩)
    rfl
  have d3 : decide (3000 < (W : Int)) = false := by simp; omega
  by_cases h20 : 20000 < b.length
  · have d20 : decide (20000 < (b.length : Int)) = true := by simp; omega
    (repeat (first | ((first | with_reducible apply Ev_op_of | with_reducible apply EvDn_op_of); (case hp => rfl); (case hv => first | ((with_reducible refine ev_len ?_ rw_) <;> exact look (an d3 d20)) | exact dfl2 (an d3 d20))) | refine adm (an d3 d20) ?_))
    (refine ⟨rfl, _, by exact ret Bool.not_true, ?_⟩)
    rfl
  have d20 : decide (20000 < (b.length : Int)) = false := by simp; omega
  have hn3 : qs.length ≤ 3000 := by omega
  (repeat (first | ((first | with_reducible apply Ev_op_of | with_reducible apply EvDn_op_of); (case hp => rfl); (case hv => first | ((with_reducible refine ev_len ?_ rw_) <;> exact look (an d3 d20)) | exact dfl2 (an d3 d20))) | refine adm (an d3 d20) ?_))
  refine Ev_abs (fun t => getT t 0 = v ∧ getT t 1 = w ∧ getT t 5 = .bool true ∧ getT t 32 = v) ⟨by exact look Bool.not_true, by exact look Bool.not_true, by exact look Bool.not_true, by exact look Bool.not_true⟩ ?_
  rintro t0 ⟨a0, a1, a5, a32⟩
  refine Ev_call (by exact cal a32) (encode_ok hv hM) ?_ (by
    rintro q k ⟨e, _⟩
    unfold EncR at e
    split at e
    · obtain ⟨_, e, _⟩ := e; cases e
    · cases e)
  rintro u k1 ⟨he, s1⟩
  have hv1 := hv.keepB s1
  have hw1 := hw.keepB s1
  unfold EncR at he
  cases henc : enc (plainL qs) with
  | none =>
    rw [henc] at he
    cases he
    have e2 : ((2 : Int) == 0) = false := rfl
    have hwB := hw1
    (repeat (first | ((first | with_reducible apply Ev_op_of | with_reducible apply EvDn_op_of); (case hp => rfl); (case hv => exact dfl2 (an e2 (an a0 a1)))) | refine adm (an e2 (an a0 a1)) ?_))
    refine Ev_abs (fun t => getT t 1 = w ∧ getT t 5 = .bool true ∧ getT t 124 = w) ⟨by exact look a1, by exact look a5, by exact look a1⟩ ?_
    rintro tB ⟨b1, b5, b124⟩
    refine Ev_call (by exact cal b124) (decode_ok hwB hb) ?_ (by
      rintro q k ⟨e, _⟩
      unfold DecR at e
      split at e
      · obtain ⟨_, _, _, e, _⟩ := e; cases e
      · cases e)
    rintro u kB ⟨hdB, sB⟩
    have hwB2 := hwB.keepB sB
    unfold DecR at hdB
    cases hdec : dec b with
    | none =>
      rw [hdec] at hdB
      cases hdB
      have e160 : ((160 : Int) == 0) = false := rfl
      have e00 : (((0 : Nat) : Int) == 0) = true := rfl
      (repeat (first | ((first | with_reducible apply Ev_op_of | with_reducible apply EvDn_op_of); (case hp => rfl); (case hv => first | ((with_reducible refine ev_lennil ?_) <;> exact look (an e160 (an e00 b5))) | exact dfl2 (an e160 (an e00 b5)))) | refine adm (an e160 (an e00 b5)) ?_))
      (refine ⟨rfl, _, by exact ret Bool.not_true, ?_⟩)
      rfl
    | some m =>
      rw [hdec] at hdB
      obtain ⟨mv, qs3, hp3, e, hr3⟩ := hdB
      cases e
      have hM3 := encOK_of_dec hb hdec
      rw [← hp3] at hM3
      have e000 : ((0 : Int) == 0) = true := rfl
      (repeat (first | ((first | with_reducible apply Ev_op_of | with_reducible apply EvDn_op_of); (case hp => rfl); (case hv => exact dfl2 (an e000 b5))) | refine adm (an e000 b5) ?_))
      refine Ev_call (by exact cal Bool.not_true) (encode_ok hr3 hM3) ?_ (by
        rintro q k ⟨e, _⟩
        unfold EncR at e
        split at e
        · obtain ⟨_, e, _⟩ := e; cases e
        · cases e)
      rintro u kC ⟨heC, sC⟩
      have hwC := hwB2.keepB sC
      unfold EncR at heC
      rw [hp3, enc_dec hdec] at heC
      obtain ⟨yv, e, hy⟩ := heC
      cases e
      have hbb : beqB b b = true := by rw [beqB_eq]; simp
      (repeat (first | ((first | with_reducible apply Ev_op_of | with_reducible apply EvDn_op_of); (case hp => rfl); (case hv => first | ((with_reducible refine ev_b2s hy ?_) <;> exact look (an e000 (an b5 (an b1 hbb)))) | ((with_reducible refine ev_b2s hwC ?_) <;> exact look (an e000 (an b5 (an b1 hbb)))) | exact dfl2 (an e000 (an b5 (an b1 hbb))))) | refine adm (an e000 (an b5 (an b1 hbb))) ?_))
      (refine ⟨rfl, _, by exact ret Bool.not_true, ?_⟩)
      rfl
  | some x =>
    rw [henc] at he
    obtain ⟨xv, e, hx⟩ := he
    cases e
    have hxl := enc_le (by omega) henc
    have hdx := dec_enc (fun fs hfs f hf => (hM.wf fs hfs f hf).1) (by omega) henc
    have e0 : ((0 : Int) == 0) = true := rfl
    have e2 : ((2 : Int) == 0) = false := rfl
    (repeat (first | ((first | with_reducible apply Ev_op_of | with_reducible apply EvDn_op_of); (case hp => rfl); (case hv => exact dfl2 (an e0 (an a0 a1)))) | refine adm (an e0 (an a0 a1)) ?_))
    refine Ev_abs (fun t => getT t 0 = v ∧ getT t 1 = w ∧ getT t 5 = .bool true ∧ getT t 6 = xv ∧ getT t 39 = xv) ⟨by exact look a0, by exact look a1, by exact look a5, by exact look Bool.not_true, by exact look Bool.not_true⟩ ?_
    rintro t1 ⟨b0, b1, b5, b6, b39⟩
    refine Ev_call (by exact cal b39) (decode_ok hx hxl) ?_ (by
      rintro q k ⟨e, _⟩
      unfold DecR at e
      rw [hdx] at e
      obtain ⟨_, _, _, e, _⟩ := e; cases e)
    rintro u k2 ⟨hd, s2⟩
    have hv2 := hv1.keepB s2
    have hw2 := hw1.keepB s2
    have hx2 := hx.keepB s2
    unfold DecR at hd
    rw [hdx] at hd
    obtain ⟨mv, qs2, hp2, e, hr2⟩ := hd
    cases e
    (repeat (first | ((first | with_reducible apply Ev_op_of | with_reducible apply EvDn_op_of); (case hp => rfl); (case hv => exact dfl2 (an e0 b0))) | refine adm (an e0 b0) ?_))
    refine Ev_abs (fun t => getT t 0 = v ∧ getT t 1 = w ∧ getT t 5 = .bool true ∧ getT t 6 = xv ∧ getT t 45 = .bool false ∧ getT t 46 = v ∧ getT t 47 = mv) ⟨by exact look b0, by exact look b1, by exact look b5, by exact look b6, by exact look e0, by exact look b0, by exact look Bool.not_true⟩ ?_
    rintro t2 ⟨c0, c1, c5, c6, c45, c46, c47⟩
    refine Ev_call (by exact cal (an c46 c47)) (sameLists_eq hv2 hr2 hp2.symm hlen hq) ?_ (by rintro v h' ⟨e, _⟩; cases e)
    rintro u k3 ⟨e, s3⟩
    cases e
    have hv3 := hv2.keepB s3
    have hw3 := hw2.keepB s3
    have hx3 := hx2.keepB s3
    (repeat (first | ((first | with_reducible apply Ev_op_of | with_reducible apply EvDn_op_of); (case hp => rfl); (case hv => exact dfl2 c45)) | refine adm c45 ?_))
    refine Ev_loopH (fun t k => ∃ i : Nat, i ≤ 3 ∧ getT t 0 = v ∧ getT t 1 = w ∧ getT t 5 = .bool true ∧ getT t 6 = xv ∧ getT t 10 = .int .i64 i ∧ Same (fun j => j < k3.next) k3 k)
      (fun t _ => cntA 3 (getT t 10)) ⟨0, by omega, by exact look c0, by exact look c1, by exact look c5, by exact look c6, (by exact look Int.natCast_zero), Same.refl⟩ ?_
    rintro t3 k ⟨i, hi, g0, g1, g5, g6, g10, sk⟩
    have hvk := hv3.keepB sk
    have hwk := hw3.keepB sk
    have hxk := hx3.keepB sk
    have rvk : Reads k 1 v qs.length (qs.flatMap lsC) := Sl.rd hvk.sl
    by_cases hgo : i < qs.length ∧ i < 3
    · obtain ⟨hlt, hl3⟩ := hgo
      have hd := lt_dec hlt
      have hd3 : decide ((i : Int) < 3) = true := by simp; omega
      have hinc := inc_nat hlt (by omega)
      obtain ⟨q, hqe⟩ : ∃ q, q = qs[i] := ⟨_, rfl⟩
      have mq : q ∈ qs := hqe ▸ List.getElem_mem hlt
      have hltM : i < (plainL qs).length := by omega
      have hMi : (plainL qs)[i] = plainF q.2 := by simp [plainL, hqe]
      (repeat (first | ((first | with_reducible apply Ev_op_of | with_reducible apply EvDn_op_of); (case hp => rfl); (case hv => first | ((with_reducible refine ev_len ?_ rvk) <;> exact look (an g0 (an g6 (an g10 (an hd hd3))))) | exact dfl2 (an g0 (an g6 (an g10 (an hd hd3)))))) | refine adm (an g0 (an g6 (an g10 (an hd hd3)))) ?_))
      refine Ev_call (by exact cal (an g6 g10)) (at_ok (i := i) hxk hxl hdx hltM (by omega)) ?_ (by rintro v h' ⟨⟨_, _, e, _⟩, _⟩; cases e)
      rintro u k5 ⟨⟨fv, ps, e, hps, hpi⟩, s5⟩
      cases e
      have hvk5 := hvk.keepB s5
      obtain ⟨a, ha, hix, _, hat⟩ := Sl.at_ (f := lsC) (l := qs) hvk5.sl lsC_len hlt
      rw [← hqe] at hat
      have hld : loadA k5 false 1 a = some q.1 := Sl.load1 hat
      rw [hMi] at hpi
      have lps : ps.length = q.2.length := by have := congrArg List.length hpi; simpa [plainF] using this
      have hlps : ∀ p ∈ ps, lens p.1 := fun p hp => by
        have : p.1 ∈ plainF q.2 := by rw [← hpi]; exact List.mem_map.2 ⟨p, hp, rfl⟩
        obtain ⟨p', hp', e⟩ := List.mem_map.1 this
        rw [← e]; exact (hq q mq).2 p' hp'
      (repeat (first | ((first | with_reducible apply Ev_op_of | with_reducible apply EvDn_op_of); (case hp => rfl); (case hv => first | ((with_reducible refine hix _ _ _ .i64 ?_ ?_) <;> exact look (an e0 (an g0 g10))) | ((with_reducible refine ev_load ?_ hld) <;> exact look (an e0 (an g0 g10))) | exact dfl2 (an e0 (an g0 g10)))) | refine adm (an e0 (an g0 g10)) ?_))
      refine Ev_call (by exact cal Bool.not_true) (equalFrs_eq hps (hvk5.ok q mq) hpi (by have := hql q mq; omega) hlps) ?_ (by rintro v h' ⟨e, _⟩; cases e)
      rintro u k6 ⟨e, s6⟩
      cases e
      have x5 := s5.next
      have xk := sk.next
      (repeat (first | ((first | with_reducible apply Ev_op_of | with_reducible apply EvDn_op_of); (case hp => rfl); (case hv => exact dfl2 (an e0 (an g10 hinc)))) | refine adm (an e0 (an g10 hinc)) ?_))
      exact ⟨rfl, ⟨i + 1, by omega, by exact look g0, by exact look g1, by exact look g5, by exact look g6, by exact look Bool.not_true, (sk.trans (s5.sub fun j hj => by omega)).trans (s6.sub fun j hj => by omega)⟩, by simp (decide := true) only [putD, getT_setT, if_true, g10, cntA_int, if_false]; omega⟩
    · by_cases hlt : i < qs.length
      · have hd := lt_dec hlt
        have hd3 : decide ((i : Int) < 3) = false := by simp; omega
        (repeat (first | ((first | with_reducible apply Ev_op_of | with_reducible apply EvDn_op_of); (case hp => rfl); (case hv => first | ((with_reducible refine ev_len ?_ rvk) <;> exact look (an g0 (an g6 (an g10 (an hd hd3))))) | exact dfl2 (an g0 (an g6 (an g10 (an hd hd3)))))) | refine adm (an g0 (an g6 (an g10 (an hd hd3)))) ?_))
        refine Ev_abs (fun t => getT t 0 = v ∧ getT t 1 = w ∧ getT t 5 = .bool true ∧ getT t 6 = xv ∧ getT t 13 = .nilslice ∧ getT t 14 = .int .i64 0) ⟨by exact look g0, by exact look g1, by exact look g5, by exact look g6, by exact look Bool.not_true, by exact look Bool.not_true⟩ ?_
        rintro t4 ⟨c0, c1, c5, c6, c13, c14⟩
        refine Ev_loopH (fun t k' => ∃ (i : Nat) (tv : AV), i ≤ qs.length ∧ getT t 0 = v ∧ getT t 1 = w ∧ getT t 5 = .bool true ∧ getT t 6 = xv ∧ getT t 13 = tv ∧ getT t 14 = .int .i64 i ∧ Same (fun j => j < k.next) k k' ∧ Own k' (fun j => k.next ≤ j) 32 1 tv (2 * i) ((dupQ (qs.take i)).flatMap lsC))
          (fun t _ => cntA qs.length (getT t 14)) ⟨0, .nilslice, Nat.zero_le _, by exact look c0, by exact look c1, by exact look c5, by exact look c6, by exact look c13, (by exact look (an c14 Int.natCast_zero)), Same.refl, Own.nil⟩ ?_
        rintro t5 k' ⟨i', tv, hi', d0, d1, d5, d6, d13, d14, sk', hown⟩
        have hvk' := hvk.keepB sk'
        have hwk' := hwk.keepB sk'
        have hxk' := hxk.keepB sk'
        have xk' := sk'.next
        have rvk' : Reads k' 1 v qs.length (qs.flatMap lsC) := Sl.rd hvk'.sl
        by_cases hlt' : i' < qs.length
        · have hd' := lt_dec hlt'
          have hinc' := inc_nat hlt' (by omega)
          obtain ⟨a, ha, hix, _, hat⟩ := Sl.at_ (f := lsC) (l := qs) hvk'.sl lsC_len hlt'
          obtain ⟨q, hqe⟩ : ∃ q, q = qs[i'] := ⟨_, rfl⟩
          rw [← hqe] at hat
          have hld : loadA k' false 1 a = some q.1 := Sl.load1 hat
          have mq : q ∈ qs := hqe ▸ List.getElem_mem hlt'
          have cq := cell_of_rd (Sl.rd (hvk'.ok q mq).sl)
          have own2 : Own (k'.push (.cells 32 [q.1, q.1] true 1 [])) (fun j => k.next ≤ j) 32 1 tv (2 * i') ((dupQ (qs.take i')).flatMap lsC) := hown.same Same.push
          have sl2 : Sl (k'.push (.cells 32 [q.1, q.1] true 1 [])) (fun j => k.next ≤ j) 1 (.slice k'.next 0 2 (some 2) 1) 2 [q.1, q.1] := Sl.fresh (by omega) rfl (by intro k hk; cases hk; omega)
          obtain ⟨v6, k6, ap6, own6, kp6, sm6⟩ := own2.appendF (bytes := 24) (zero := [.nilslice]) (u := .slice k'.next 0 2 (some 2) 1) (m := 2) rfl sl2.source (by simp [allCells, cq]) rfl (by omega) (by omega) (by unfold roomA; omega) (by rw [push_next]; omega)
          have s6 : Same (fun j => j < k.next) k' k6 := Same.push.trans (sm6 _ (fun j hj hj2 => by omega))
          have htk : dupQ (qs.take (i' + 1)) = dupQ (qs.take i') ++ [q, q] := by rw [List.take_succ_eq_append_getElem hlt', dupQ_append, ← hqe]
          have e22 : 2 * i' + 2 = 2 * (i' + 1) := by omega
          rw [e22] at own6
          (repeat (first | ((first | with_reducible apply Ev_op_of | with_reducible apply EvDn_op_of); (case hp => rfl); (case hv => first | ((with_reducible refine ev_len ?_ rvk') <;> exact look (an d0 (an d13 (an d14 (an hd' hinc'))))) | ((with_reducible refine hix _ _ _ .i64 ?_ ?_) <;> exact look (an d0 (an d13 (an d14 (an hd' hinc'))))) | ((with_reducible refine ev_load ?_ hld) <;> exact look (an d0 (an d13 (an d14 (an hd' hinc'))))) | ((with_reducible refine ev_b2v cq ?_ ?_) <;> exact look (an d0 (an d13 (an d14 (an hd' hinc'))))) | ((with_reducible refine ap6 _ _ _ ?_ ?_) <;> exact look (an d0 (an d13 (an d14 (an hd' hinc'))))) | exact dfl2 (an d0 (an d13 (an d14 (an hd' hinc')))))) | refine adm (an d0 (an d13 (an d14 (an hd' hinc')))) ?_))
          refine ⟨rfl, ⟨i' + 1, v6, hlt', by exact look d0, by exact look d1, by exact look d5, by exact look d6, by exact look Bool.not_true, by exact look Bool.not_true, sk'.trans s6, ?_⟩, by simp (decide := true) only [putD, getT_setT, if_true, d14, cntA_int, if_false]; exact Nat.sub_lt_sub_left hlt' (Nat.lt_succ_self i')⟩
          rw [htk, List.flatMap_append]; exact own6
        have hd' := nlt_dec hlt'
        have hin' : i' = qs.length := by omega
        rw [hin', List.take_length] at hown
        have hdl : (dupQ qs).length = 2 * qs.length := dupQ_length qs
        have hrt : RdLs k' (fun _ => True) tv (dupQ qs) := ⟨by rw [hdl]; exact hown.sl.sub fun _ _ _ => trivial, fun q hq' => (hvk'.ok q (dupQ_mem hq')).sub fun _ _ _ => trivial⟩
        have hMt : EncOK (plainL (dupQ qs)) := by
          rw [dupQ_plain]
          exact ⟨fun fs hf => hM.wf fs (dup_mem hf), by rw [dup_length, hlM]; omega, fun fs hf => hM.size fs (dup_mem hf)⟩
        (repeat (first | ((first | with_reducible apply Ev_op_of | with_reducible apply EvDn_op_of); (case hp => rfl); (case hv => first | ((with_reducible refine ev_len ?_ rvk') <;> exact look (an d0 (an d13 (an d14 hd')))) | exact dfl2 (an d0 (an d13 (an d14 hd'))))) | refine adm (an d0 (an d13 (an d14 hd'))) ?_))
        refine Ev_abs (fun t => getT t 0 = v ∧ getT t 1 = w ∧ getT t 5 = .bool true ∧ getT t 6 = xv ∧ getT t 96 = tv) ⟨by exact look d0, by exact look d1, by exact look d5, by exact look d6, by exact look d13⟩ ?_
        rintro t6 ⟨f0, f1, f5, f6, f96⟩
        refine Ev_call (by exact cal f96) (encode_ok hrt hMt) ?_ (by
          rintro q k ⟨e, _⟩
          unfold EncR at e
          split at e
          · obtain ⟨_, e, _⟩ := e; cases e
          · cases e)
        rintro u k7 ⟨he7, s7⟩
        have hvk7 := hvk'.keepB s7
        have hwB := hwk'.keepB s7
        have hxk7 := hxk'.keepB s7
        have rx7 : Reads k7 1 xv x.length (x.map byteA) := Sl.rd hxk7
        have rv7 : Reads k7 1 v qs.length (qs.flatMap lsC) := Sl.rd hvk7.sl
        have htw := twice_enc henc
        unfold EncR at he7
        rw [dupQ_plain] at he7
        cases hdup : enc (dup (plainL qs)) with
        | none =>
          rw [hdup] at he7 htw
          cases he7
          simp only [hlM] at htw
          have dx : decide ((x.length : Int) < 524288) = false := by simp; omega
          (repeat (first | ((first | with_reducible apply Ev_op_of | with_reducible apply EvDn_op_of); (case hp => rfl); (case hv => first | ((with_reducible refine ev_len ?_ rx7) <;> exact look (an e0 (an e2 (an dx f6)))) | exact dfl2 (an e0 (an e2 (an dx f6))))) | refine adm (an e0 (an e2 (an dx f6))) ?_))
          refine Ev_abs (fun t => getT t 1 = w ∧ getT t 5 = .bool true ∧ getT t 124 = w) ⟨by exact look f1, by exact look f5, by exact look f1⟩ ?_
          rintro tB ⟨b1, b5, b124⟩
          refine Ev_call (by exact cal b124) (decode_ok hwB hb) ?_ (by
            rintro q k ⟨e, _⟩
            unfold DecR at e
            split at e
            · obtain ⟨_, _, _, e, _⟩ := e; cases e
            · cases e)
          rintro u kB ⟨hdB, sB⟩
          have hwB2 := hwB.keepB sB
          unfold DecR at hdB
          cases hdec : dec b with
          | none =>
            rw [hdec] at hdB
            cases hdB
            have e160 : ((160 : Int) == 0) = false := rfl
            have e00 : (((0 : Nat) : Int) == 0) = true := rfl
            (repeat (first | ((first | with_reducible apply Ev_op_of | with_reducible apply EvDn_op_of); (case hp => rfl); (case hv => first | ((with_reducible refine ev_lennil ?_) <;> exact look (an e160 (an e00 b5))) | exact dfl2 (an e160 (an e00 b5)))) | refine adm (an e160 (an e00 b5)) ?_))
            (refine ⟨rfl, _, by exact ret Bool.not_true, ?_⟩)
            rfl
          | some m =>
            rw [hdec] at hdB
            obtain ⟨mv, qs3, hp3, e, hr3⟩ := hdB
            cases e
            have hM3 := encOK_of_dec hb hdec
            rw [← hp3] at hM3
            have e000 : ((0 : Int) == 0) = true := rfl
            (repeat (first | ((first | with_reducible apply Ev_op_of | with_reducible apply EvDn_op_of); (case hp => rfl); (case hv => exact dfl2 (an e000 b5))) | refine adm (an e000 b5) ?_))
            refine Ev_call (by exact cal Bool.not_true) (encode_ok hr3 hM3) ?_ (by
              rintro q k ⟨e, _⟩
              unfold EncR at e
              split at e
              · obtain ⟨_, e, _⟩ := e; cases e
              · cases e)
            rintro u kC ⟨heC, sC⟩
            have hwC := hwB2.keepB sC
            unfold EncR at heC
            rw [hp3, enc_dec hdec] at heC
            obtain ⟨yv, e, hy⟩ := heC
            cases e
            have hbb : beqB b b = true := by rw [beqB_eq]; simp
            (repeat (first | ((first | with_reducible apply Ev_op_of | with_reducible apply EvDn_op_of); (case hp => rfl); (case hv => first | ((with_reducible refine ev_b2s hy ?_) <;> exact look (an e000 (an b5 (an b1 hbb)))) | ((with_reducible refine ev_b2s hwC ?_) <;> exact look (an e000 (an b5 (an b1 hbb)))) | exact dfl2 (an e000 (an b5 (an b1 hbb))))) | refine adm (an e000 (an b5 (an b1 hbb))) ?_))
            (refine ⟨rfl, _, by exact ret Bool.not_true, ?_⟩)
            rfl
        | some yy =>
          rw [hdup] at he7 htw
          obtain ⟨yv, e, hyy⟩ := he7
          cases e
          simp only [hlM] at htw
          have ryy : Reads k7 1 yv yy.length (yy.map byteA) := Sl.rd hyy
          have m1 : wrapA .i64 (16 * (qs.length : Int)) = ((16 * qs.length : Nat) : Int) := by rw [wrap_i64 (by omega) (by omega)]; omega
          have m2 : wrapA .i64 ((x.length : Int) + ((16 * qs.length : Nat) : Int)) = ((x.length + 16 * qs.length : Nat) : Int) := by rw [wrap_i64 (by omega) (by omega)]; omega
          have m3 : wrapA .i64 (((x.length + 16 * qs.length : Nat) : Int) + 1) = ((x.length + 16 * qs.length + 1 : Nat) : Int) := by rw [wrap_i64 (by omega) (by omega)]; omega
          have dy : decide (((x.length + 16 * qs.length + 1 : Nat) : Int) < (yy.length : Int)) = false := dyL htw
          (repeat (first | ((first | with_reducible apply Ev_op_of | with_reducible apply EvDn_op_of); (case hp => rfl); (case hv => first | ((with_reducible refine ev_len ?_ rx7) <;> exact look (an e0 (an f0 (an f6 (an m1 (an m2 (an m3 dy))))))) | ((with_reducible refine ev_len ?_ ryy) <;> exact look (an e0 (an f0 (an f6 (an m1 (an m2 (an m3 dy))))))) | ((with_reducible refine ev_len ?_ rv7) <;> exact look (an e0 (an f0 (an f6 (an m1 (an m2 (an m3 dy))))))) | exact dfl2 (an e0 (an f0 (an f6 (an m1 (an m2 (an m3 dy)))))))) | refine adm (an e0 (an f0 (an f6 (an m1 (an m2 (an m3 dy)))))) ?_))
          refine Ev_abs (fun t => getT t 1 = w ∧ getT t 5 = .bool true ∧ getT t 124 = w) ⟨by exact look f1, by exact look f5, by exact look f1⟩ ?_
          rintro tB ⟨b1, b5, b124⟩
          refine Ev_call (by exact cal b124) (decode_ok hwB hb) ?_ (by
            rintro q k ⟨e, _⟩
            unfold DecR at e
            split at e
            · obtain ⟨_, _, _, e, _⟩ := e; cases e
            · cases e)
          rintro u kB ⟨hdB, sB⟩
          have hwB2 := hwB.keepB sB
          unfold DecR at hdB
          cases hdec : dec b with
          | none =>
            rw [hdec] at hdB
            cases hdB
            have e160 : ((160 : Int) == 0) = false := rfl
            have e00 : (((0 : Nat) : Int) == 0) = true := rfl
            (repeat (first | ((first | with_reducible apply Ev_op_of | with_reducible apply EvDn_op_of); (case hp => rfl); (case hv => first | ((with_reducible refine ev_lennil ?_) <;> exact look (an e160 (an e00 b5))) | exact dfl2 (an e160 (an e00 b5)))) | refine adm (an e160 (an e00 b5)) ?_))
            (refine ⟨rfl, _, by exact ret Bool.not_true, ?_⟩)
            rfl
          | some m =>
            rw [hdec] at hdB
            obtain ⟨mv, qs3, hp3, e, hr3⟩ := hdB
            cases e
            have hM3 := encOK_of_dec hb hdec
            rw [← hp3] at hM3
            have e000 : ((0 : Int) == 0) = true := rfl
            (repeat (first | ((first | with_reducible apply Ev_op_of | with_reducible apply EvDn_op_of); (case hp => rfl); (case hv => exact dfl2 (an e000 b5))) | refine adm (an e000 b5) ?_))
            refine Ev_call (by exact cal Bool.not_true) (encode_ok hr3 hM3) ?_ (by
              rintro q k ⟨e, _⟩
              unfold EncR at e
              split at e
              · obtain ⟨_, e, _⟩ := e; cases e
              · cases e)
            rintro u kC ⟨heC, sC⟩
            have hwC := hwB2.keepB sC
            unfold EncR at heC
            rw [hp3, enc_dec hdec] at heC
            obtain ⟨yv, e, hy⟩ := heC
            cases e
            have hbb : beqB b b = true := by rw [beqB_eq]; simp
            (repeat (first | ((first | with_reducible apply Ev_op_of | with_reducible apply EvDn_op_of); (case hp => rfl); (case hv => first | ((with_reducible refine ev_b2s hy ?_) <;> exact look (an e000 (an b5 (an b1 hbb)))) | ((with_reducible refine ev_b2s hwC ?_) <;> exact look (an e000 (an b5 (an b1 hbb)))) | exact dfl2 (an e000 (an b5 (an b1 hbb))))) | refine adm (an e000 (an b5 (an b1 hbb))) ?_))
            (refine ⟨rfl, _, by exact ret Bool.not_true, ?_⟩)
            rfl
      · have hd := nlt_dec hlt
        (repeat (first | ((first | with_reducible apply Ev_op_of | with_reducible apply EvDn_op_of); (case hp => rfl); (case hv => first | ((with_reducible refine ev_len ?_ rvk) <;> exact look (an g0 (an g6 (an g10 hd)))) | exact dfl2 (an g0 (an g6 (an g10 hd))))) | refine adm (an g0 (an g6 (an g10 hd))) ?_))
        refine Ev_abs (fun t => getT t 0 = v ∧ getT t 1 = w ∧ getT t 5 = .bool true ∧ getT t 6 = xv ∧ getT t 13 = .nilslice ∧ getT t 14 = .int .i64 0) ⟨by exact look g0, by exact look g1, by exact look g5, by exact look g6, by exact look Bool.not_true, by exact look Bool.not_true⟩ ?_
        rintro t4 ⟨c0, c1, c5, c6, c13, c14⟩
        refine Ev_loopH (fun t k' => ∃ (i : Nat) (tv : AV), i ≤ qs.length ∧ getT t 0 = v ∧ getT t 1 = w ∧ getT t 5 = .bool true ∧ getT t 6 = xv ∧ getT t 13 = tv ∧ getT t 14 = .int .i64 i ∧ Same (fun j => j < k.next) k k' ∧ Own k' (fun j => k.next ≤ j) 32 1 tv (2 * i) ((dupQ (qs.take i)).flatMap lsC))
          (fun t _ => cntA qs.length (getT t 14)) ⟨0, .nilslice, Nat.zero_le _, by exact look c0, by exact look c1, by exact look c5, by exact look c6, by exact look c13, (by exact look (an c14 Int.natCast_zero)), Same.refl, Own.nil⟩ ?_
        rintro t5 k' ⟨i', tv, hi', d0, d1, d5, d6, d13, d14, sk', hown⟩
        have hvk' := hvk.keepB sk'
        have hwk' := hwk.keepB sk'
        have hxk' := hxk.keepB sk'
        have xk' := sk'.next
        have rvk' : Reads k' 1 v qs.length (qs.flatMap lsC) := Sl.rd hvk'.sl
        by_cases hlt' : i' < qs.length
        · have hd' := lt_dec hlt'
          have hinc' := inc_nat hlt' (by omega)
          obtain ⟨a, ha, hix, _, hat⟩ := Sl.at_ (f := lsC) (l := qs) hvk'.sl lsC_len hlt'
          obtain ⟨q, hqe⟩ : ∃ q, q = qs[i'] := ⟨_, rfl⟩
          rw [← hqe] at hat
          have hld : loadA k' false 1 a = some q.1 := Sl.load1 hat
          have mq : q ∈ qs := hqe ▸ List.getElem_mem hlt'
          have cq := cell_of_rd (Sl.rd (hvk'.ok q mq).sl)
          have own2 : Own (k'.push (.cells 32 [q.1, q.1] true 1 [])) (fun j => k.next ≤ j) 32 1 tv (2 * i') ((dupQ (qs.take i')).flatMap lsC) := hown.same Same.push
          have sl2 : Sl (k'.push (.cells 32 [q.1, q.1] true 1 [])) (fun j => k.next ≤ j) 1 (.slice k'.next 0 2 (some 2) 1) 2 [q.1, q.1] := Sl.fresh (by omega) rfl (by intro k hk; cases hk; omega)
          obtain ⟨v6, k6, ap6, own6, kp6, sm6⟩ := own2.appendF (bytes := 24) (zero := [.nilslice]) (u := .slice k'.next 0 2 (some 2) 1) (m := 2) rfl sl2.source (by simp [allCells, cq]) rfl (by omega) (by omega) (by unfold roomA; omega) (by rw [push_next]; omega)
          have s6 : Same (fun j => j < k.next) k' k6 := Same.push.trans (sm6 _ (fun j hj hj2 => by omega))
          have htk : dupQ (qs.take (i' + 1)) = dupQ (qs.take i') ++ [q, q] := by rw [List.take_succ_eq_append_getElem hlt', dupQ_append, ← hqe]
          have e22 : 2 * i' + 2 = 2 * (i' + 1) := by omega
          rw [e22] at own6
          (repeat (first | ((first | with_reducible apply Ev_op_of | with_reducible apply EvDn_op_of); (case hp => rfl); (case hv => first | ((with_reducible refine ev_len ?_ rvk') <;> exact look (an d0 (an d13 (an d14 (an hd' hinc'))))) | ((with_reducible refine hix _ _ _ .i64 ?_ ?_) <;> exact look (an d0 (an d13 (an d14 (an hd' hinc'))))) | ((with_reducible refine ev_load ?_ hld) <;> exact look (an d0 (an d13 (an d14 (an hd' hinc'))))) | ((with_reducible refine ev_b2v cq ?_ ?_) <;> exact look (an d0 (an d13 (an d14 (an hd' hinc'))))) | ((with_reducible refine ap6 _ _ _ ?_ ?_) <;> exact look (an d0 (an d13 (an d14 (an hd' hinc'))))) | exact dfl2 (an d0 (an d13 (an d14 (an hd' hinc')))))) | refine adm (an d0 (an d13 (an d14 (an hd' hinc')))) ?_))
          refine ⟨rfl, ⟨i' + 1, v6, hlt', by exact look d0, by exact look d1, by exact look d5, by exact look d6, by exact look Bool.not_true, by exact look Bool.not_true, sk'.trans s6, ?_⟩, by simp (decide := true) only [putD, getT_setT, if_true, d14, cntA_int, if_false]; exact Nat.sub_lt_sub_left hlt' (Nat.lt_succ_self i')⟩
          rw [htk, List.flatMap_append]; exact own6
        have hd' := nlt_dec hlt'
        have hin' : i' = qs.length := by omega
        rw [hin', List.take_length] at hown
        have hdl : (dupQ qs).length = 2 * qs.length := dupQ_length qs
        have hrt : RdLs k' (fun _ => True) tv (dupQ qs) := ⟨by rw [hdl]; exact hown.sl.sub fun _ _ _ => trivial, fun q hq' => (hvk'.ok q (dupQ_mem hq')).sub fun _ _ _ => trivial⟩
        have hMt : EncOK (plainL (dupQ qs)) := by
          rw [dupQ_plain]
          exact ⟨fun fs hf => hM.wf fs (dup_mem hf), by rw [dup_length, hlM]; omega, fun fs hf => hM.size fs (dup_mem hf)⟩
        (repeat (first | ((first | with_reducible apply Ev_op_of | with_reducible apply EvDn_op_of); (case hp => rfl); (case hv => first | ((with_reducible refine ev_len ?_ rvk') <;> exact look (an d0 (an d13 (an d14 hd')))) | exact dfl2 (an d0 (an d13 (an d14 hd'))))) | refine adm (an d0 (an d13 (an d14 hd'))) ?_))
        refine Ev_abs (fun t => getT t 0 = v ∧ getT t 1 = w ∧ getT t 5 = .bool true ∧ getT t 6 = xv ∧ getT t 96 = tv) ⟨by exact look d0, by exact look d1, by exact look d5, by exact look d6, by exact look d13⟩ ?_
        rintro t6 ⟨f0, f1, f5, f6, f96⟩
        refine Ev_call (by exact cal f96) (encode_ok hrt hMt) ?_ (by
          rintro q k ⟨e, _⟩
          unfold EncR at e
          split at e
          · obtain ⟨_, e, _⟩ := e; cases e
          · cases e)
        rintro u k7 ⟨he7, s7⟩
        have hvk7 := hvk'.keepB s7
        have hwB := hwk'.keepB s7
        have hxk7 := hxk'.keepB s7
        have rx7 : Reads k7 1 xv x.length (x.map byteA) := Sl.rd hxk7
        have rv7 : Reads k7 1 v qs.length (qs.flatMap lsC) := Sl.rd hvk7.sl
        have htw := twice_enc henc
        unfold EncR at he7
        rw [dupQ_plain] at he7
        cases hdup : enc (dup (plainL qs)) with
        | none =>
          rw [hdup] at he7 htw
          cases he7
          simp only [hlM] at htw
          have dx : decide ((x.length : Int) < 524288) = false := by simp; omega
          (repeat (first | ((first | with_reducible apply Ev_op_of | with_reducible apply EvDn_op_of); (case hp => rfl); (case hv => first | ((with_reducible refine ev_len ?_ rx7) <;> exact look (an e0 (an e2 (an dx f6)))) | exact dfl2 (an e0 (an e2 (an dx f6))))) | refine adm (an e0 (an e2 (an dx f6))) ?_))
          refine Ev_abs (fun t => getT t 1 = w ∧ getT t 5 = .bool true ∧ getT t 124 = w) ⟨by exact look f1, by exact look f5, by exact look f1⟩ ?_
          rintro tB ⟨b1, b5, b124⟩
          refine Ev_call (by exact cal b124) (decode_ok hwB hb) ?_ (by
            rintro q k ⟨e, _⟩
            unfold DecR at e
            split at e
            · obtain ⟨_, _, _, e, _⟩ := e; cases e
            · cases e)
          rintro u kB ⟨hdB, sB⟩
          have hwB2 := hwB.keepB sB
          unfold DecR at hdB
          cases hdec : dec b with
          | none =>
            rw [hdec] at hdB
            cases hdB
            have e160 : ((160 : Int) == 0) = false := rfl
            have e00 : (((0 : Nat) : Int) == 0) = true := rfl
            (repeat (first | ((first | with_reducible apply Ev_op_of | with_reducible apply EvDn_op_of); (case hp => rfl); (case hv => first | ((with_reducible refine ev_lennil ?_) <;> exact look (an e160 (an e00 b5))) | exact dfl2 (an e160 (an e00 b5)))) | refine adm (an e160 (an e00 b5)) ?_))
            (refine ⟨rfl, _, by exact ret Bool.not_true, ?_⟩)
            rfl
          | some m =>
            rw [hdec] at hdB
            obtain ⟨mv, qs3, hp3, e, hr3⟩ := hdB
            cases e
            have hM3 := encOK_of_dec hb hdec
            rw [← hp3] at hM3
            have e000 : ((0 : Int) == 0) = true := rfl
            (repeat (first | ((first | with_reducible apply Ev_op_of | with_reducible apply EvDn_op_of); (case hp => rfl); (case hv => exact dfl2 (an e000 b5))) | refine adm (an e000 b5) ?_))
            refine Ev_call (by exact cal Bool.not_true) (encode_ok hr3 hM3) ?_ (by
              rintro q k ⟨e, _⟩
              unfold EncR at e
              split at e
              · obtain ⟨_, e, _⟩ := e; cases e
              · cases e)
            rintro u kC ⟨heC, sC⟩
            have hwC := hwB2.keepB sC
            unfold EncR at heC
            rw [hp3, enc_dec hdec] at heC
            obtain ⟨yv, e, hy⟩ := heC
            cases e
            have hbb : beqB b b = true := by rw [beqB_eq]; simp
            (repeat (first | ((first | with_reducible apply Ev_op_of | with_reducible apply EvDn_op_of); (case hp => rfl); (case hv => first | ((with_reducible refine ev_b2s hy ?_) <;> exact look (an e000 (an b5 (an b1 hbb)))) | ((with_reducible refine ev_b2s hwC ?_) <;> exact look (an e000 (an b5 (an b1 hbb)))) | exact dfl2 (an e000 (an b5 (an b1 hbb))))) | refine adm (an e000 (an b5 (an b1 hbb))) ?_))
            (refine ⟨rfl, _, by exact ret Bool.not_true, ?_⟩)
            rfl
        | some yy =>
          rw [hdup] at he7 htw
          obtain ⟨yv, e, hyy⟩ := he7
          cases e
          simp only [hlM] at htw
          have ryy : Reads k7 1 yv yy.length (yy.map byteA) := Sl.rd hyy
          have m1 : wrapA .i64 (16 * (qs.length : Int)) = ((16 * qs.length : Nat) : Int) := by rw [wrap_i64 (by omega) (by omega)]; omega
          have m2 : wrapA .i64 ((x.length : Int) + ((16 * qs.length : Nat) : Int)) = ((x.length + 16 * qs.length : Nat) : Int) := by rw [wrap_i64 (by omega) (by omega)]; omega
          have m3 : wrapA .i64 (((x.length + 16 * qs.length : Nat) : Int) + 1) = ((x.length + 16 * qs.length + 1 : Nat) : Int) := by rw [wrap_i64 (by omega) (by omega)]; omega
          have dy : decide (((x.length + 16 * qs.length + 1 : Nat) : Int) < (yy.length : Int)) = false := dyL htw
          (repeat (first | ((first | with_reducible apply Ev_op_of | with_reducible apply EvDn_op_of); (case hp => rfl); (case hv => first | ((with_reducible refine ev_len ?_ rx7) <;> exact look (an e0 (an f0 (an f6 (an m1 (an m2 (an m3 dy))))))) | ((with_reducible refine ev_len ?_ ryy) <;> exact look (an e0 (an f0 (an f6 (an m1 (an m2 (an m3 dy))))))) | ((with_reducible refine ev_len ?_ rv7) <;> exact look (an e0 (an f0 (an f6 (an m1 (an m2 (an m3 dy))))))) | exact dfl2 (an e0 (an f0 (an f6 (an m1 (an m2 (an m3 dy)))))))) | refine adm (an e0 (an f0 (an f6 (an m1 (an m2 (an m3 dy)))))) ?_))
          refine Ev_abs (fun t => getT t 1 = w ∧ getT t 5 = .bool true ∧ getT t 124 = w) ⟨by exact look f1, by exact look f5, by exact look f1⟩ ?_
          rintro tB ⟨b1, b5, b124⟩
          refine Ev_call (by exact cal b124) (decode_ok hwB hb) ?_ (by
            rintro q k ⟨e, _⟩
            unfold DecR at e
            split at e
            · obtain ⟨_, _, _, e, _⟩ := e; cases e
            · cases e)
          rintro u kB ⟨hdB, sB⟩
          have hwB2 := hwB.keepB sB
          unfold DecR at hdB
          cases hdec : dec b with
          | none =>
            rw [hdec] at hdB
            cases hdB
            have e160 : ((160 : Int) == 0) = false := rfl
            have e00 : (((0 : Nat) : Int) == 0) = true := rfl
            (repeat (first | ((first | with_reducible apply Ev_op_of | with_reducible apply EvDn_op_of); (case hp => rfl); (case hv => first | ((with_reducible refine ev_lennil ?_) <;> exact look (an e160 (an e00 b5))) | exact dfl2 (an e160 (an e00 b5)))) | refine adm (an e160 (an e00 b5)) ?_))
            (refine ⟨rfl, _, by exact ret Bool.not_true, ?_⟩)
            rfl
          | some m =>
            rw [hdec] at hdB
            obtain ⟨mv, qs3, hp3, e, hr3⟩ := hdB
            cases e
            have hM3 := encOK_of_dec hb hdec
            rw [← hp3] at hM3
            have e000 : ((0 : Int) == 0) = true := rfl
            (repeat (first | ((first | with_reducible apply Ev_op_of | with_reducible apply EvDn_op_of); (case hp => rfl); (case hv => exact dfl2 (an e000 b5))) | refine adm (an e000 b5) ?_))
            refine Ev_call (by exact cal Bool.not_true) (encode_ok hr3 hM3) ?_ (by
              rintro q k ⟨e, _⟩
              unfold EncR at e
              split at e
              · obtain ⟨_, e, _⟩ := e; cases e
              · cases e)
            rintro u kC ⟨heC, sC⟩
            have hwC := hwB2.keepB sC
            unfold EncR at heC
            rw [hp3, enc_dec hdec] at heC
            obtain ⟨yv, e, hy⟩ := heC
            cases e
            have hbb : beqB b b = true := by rw [beqB_eq]; simp
            (repeat (first | ((first | with_reducible apply Ev_op_of | with_reducible apply EvDn_op_of); (case hp => rfl); (case hv => first | ((with_reducible refine ev_b2s hy ?_) <;> exact look (an e000 (an b5 (an b1 hbb)))) | ((with_reducible refine ev_b2s hwC ?_) <;> exact look (an e000 (an b5 (an b1 hbb)))) | exact dfl2 (an e000 (an b5 (an b1 hbb))))) | refine adm (an e000 (an b5 (an b1 hbb))) ?_))
            (refine ⟨rfl, _, by exact ret Bool.not_true, ?_⟩)
            rfl
end
end Go.AM
