/- WHAT THE READER's FUNCTIONS DO: numbers and lengths. -/
import Derived.Test.YtlpnnoojgbhfaaaGreatDoorGo
import Derived.Test.YtlpnnoojgbhfaaaGreatDoorSa
import Derived.Test.YtlpnnoojgbhfaaaGreatDoorMc
import Derived.Test.YtlpnnoojgbhfaaaGreatDoorK
import Derived.Test.YtlpnnoojgbhfaaaGreatDoorSb
set_option linter.all false
namespace Go.AM
set_option maxRecDepth 10000
set_option linter.unusedSimpArgs false

def unreadV : AV := .iface 81 (.agg [])

section
variable {h h' : Heap} {S : Nat → Prop} {r : Nat} {b : List UInt8} {t : Tm}

theorem need_t : CallA progK (.fn 24) [.bool true] h fun x h' => x = .ret (.tuple []) ∧ h' = h := by
  refine CallA_body (by rfl) ?_
  (repeat (first | ((first | with_reducible apply Ev_op_of | with_reducible apply EvDn_op_of); (case hp => rfl); (case hv => exact dfl2 Bool.not_true)) | refine adm Bool.not_true ?_))
  (refine ⟨rfl, _, by exact ret Bool.not_true, ?_⟩)
  exact ⟨rfl, rfl⟩

theorem need_f : CallA progK (.fn 24) [.bool false] h fun x h' => x = .pan unreadV ∧ h' = h := by
  refine CallA_body (by rfl) ?_
  have e0 : ∀ {t : Tm}, evOp (.build [] []) t h = some (.agg [], h) := rfl
  (repeat (first | ((first | with_reducible apply Ev_op_of | with_reducible apply EvDn_op_of); (case hp => rfl); (case hv => first | ((with_reducible refine e0) <;> exact look Bool.not_true) | exact dfl2 Bool.not_true)) | refine adm Bool.not_true ?_))
  refine (Ev_panic (ty := 81) (v := .agg []) (by exact look Bool.not_true)).2 ?_
  exact ⟨rfl, rfl, rfl⟩

/-- a reader: its struct is block r, what it has still to read lies in blocks below -/
structure Rs (h : Heap) (r : Nat) (b : List UInt8) : Prop where
  ex : ∃ tr fz v, fz ≤ 1 ∧ h.find r = some (.cells tr [v] true fz []) ∧ Sl h (fun j => j < r) 1 v b.length (b.map byteA)

theorem Rs.lt (hr : Rs h r b) : r < h.next := by
  obtain ⟨tr, fz, v, _, hf, _⟩ := hr.ex
  exact find_lt hf

theorem Rs.same (hr : Rs h r b) (hs : Same (fun j => j ≤ r) h h') : Rs h' r b := by
  obtain ⟨tr, fz, v, h1, hf, hsl⟩ := hr.ex
  exact ⟨tr, fz, v, h1, hs.find (Nat.le_refl _) hf, hsl.keep (hs.sub fun j hj => Nat.le_of_lt hj).keep⟩

theorem findB_split : ∀ {b : List UInt8} {i : Nat}, findB 59 b i = match splitB b with | some (x, _) => ((i + x.length : Nat) : Int) | none => -1
  | [], i => rfl
  | c :: b, i => by
    simp only [findB, splitB]
    split
    · rename_i hc; simp
    · rename_i hc
      rw [findB_split (b := b) (i := i + 1)]
      cases splitB b with
      | none => rfl
      | some p =>
        obtain ⟨x, y⟩ := p
        simp only [List.length_cons]
        congr 1; omega

theorem indexByte_ok {v : AV} (hs : Sl h S 1 v b.length (b.map byteA)) : CallA progK (.fn 89) [v, .int .u8 59] h fun x h' => x = .ret (.int .i64 (findB 59 b 0)) ∧ h' = h := by
  refine CallA_body (by rfl) ?_
  (repeat (first | ((first | with_reducible apply Ev_op_of | with_reducible apply EvDn_op_of); (case hp => rfl); (case hv => exact dfl2 Bool.not_true)) | refine adm Bool.not_true ?_))
  have hi : CallA progK (.fn 116) [v, .int .u8 59] h fun x h' => x = .ret (.int .i64 (findB 59 b 0)) ∧ h' = h := by
    refine CallA_intr (by rfl) (v := .int .i64 (findB 59 b 0)) (h' := h) ?_ ⟨rfl, rfl⟩
    simp only [evIntr, hs.rd.1, hs.source, bytesOf_map]
    rfl
  refine Ev_call (by exact cal Bool.not_true) hi ?_ (by rintro v h' ⟨e, _⟩; cases e)
  rintro x h' ⟨e, eh⟩
  cases e
  have eh' := eh.symm
  subst eh'
  (repeat (first | ((first | with_reducible apply Ev_op_of | with_reducible apply EvDn_op_of); (case hp => rfl); (case hv => exact dfl2 Bool.not_true)) | refine adm Bool.not_true ?_))
  (refine ⟨rfl, _, by exact ret Bool.not_true, ?_⟩)
  exact ⟨rfl, rfl⟩

theorem ev_b2s {v : AV} {x : Opd} (hs : Sl h S 1 v b.length (b.map byteA)) (hx : x.ev t = v) : evOp (.conv .b2s x) t h = some (.str b, h) := by
  simp only [evOp, hx, convA, hs.b2s]

theorem ev_geq {x y : Opd} {m n : Int} (hx : x.ev t = .int .i64 m) (hy : y.ev t = .int .i64 n) : evOp (.bin .geq .num x y) t h = some (.bool (decide (n ≤ m)), h) := by
  simp only [evOp, hx, hy, binA, if_true]

/-- what is read, or the panic -/
def ReadR {α : Type} (q : Option (α × List UInt8)) (val : α → AV) (r : Nat) (h : Heap) (x : ARes) (h' : Heap) : Prop :=
  Same (fun j => j ≠ r) h h' ∧ ((∃ n y, q = some (n, y) ∧ x = .ret (val n) ∧ Rs h' r y) ∨ (q = none ∧ x = .pan unreadV))

theorem number_ok (hr : Rs h r b) (hb : b.length ≤ 9999999) : CallA progK (.fn 52) [.ptr r 0] h (ReadR (rdNum b) (fun n => .int .i64 n) r h) := by
  refine CallA_body (by rfl) ?_
  obtain ⟨tr, fz, v, hz, hf, hs⟩ := hr.ex
  (repeat (first | ((first | with_reducible apply Ev_op_of | with_reducible apply EvDn_op_of); (case hp => rfl); (case hv => first | ((with_reducible refine ev_loadP (c := r) (o := 0) hf rfl ?_) <;> exact look Bool.not_true) | exact dfl2 Bool.not_true)) | refine adm Bool.not_true ?_))
  refine Ev_call (by exact cal Bool.not_true) (indexByte_ok hs) ?_ (by rintro v h' ⟨e, _⟩; cases e)
  rintro x h' ⟨e, eh⟩
  cases e
  have eh' := eh.symm
  subst eh'
  cases hsp : splitB b with
  | none =>
    have hfi : findB 59 b 0 = -1 := by rw [findB_split, hsp]
    rw [hfi]
    have e0 : decide ((0 : Int) ≤ -1) = false := by decide
    have hq : rdNum b = none := by unfold rdNum; rw [hsp]
    (repeat (first | ((first | with_reducible apply Ev_op_of | with_reducible apply EvDn_op_of); (case hp => rfl); (case hv => first | ((with_reducible refine ev_geq ?_ ?_) <;> exact look (an e0 (an decide_true decide_false))) | exact dfl2 (an e0 (an decide_true decide_false)))) | refine adm (an e0 (an decide_true decide_false)) ?_))
    refine Ev_call (by exact cal Bool.not_true) need_f (by rintro v h' ⟨e, _⟩; cases e) ?_
    rintro v h' ⟨e, eh⟩
    have eh' := eh.symm
    subst eh'
    exact ⟨rfl, Same.refl, .inr ⟨hq, e⟩⟩
  | some p =>
    obtain ⟨x, y⟩ := p
    obtain ⟨hbx, _⟩ := splitB_some hsp
    have hbl : b.length = x.length + (y.length + 1) := by rw [hbx]; simp
    have hfi : findB 59 b 0 = (x.length : Int) := by rw [findB_split, hsp]; simp
    rw [hfi]
    have e0 : decide ((0 : Int) ≤ (x.length : Int)) = true := by simp
    by_cases h20 : x.length ≤ 20
    · have e1 : decide ((x.length : Int) ≤ 20) = true := by simp; omega
      obtain ⟨v24, hs24, cut24⟩ := hs.hiF (m := x.length) (by omega)
      rw [Nat.mul_one, ← List.map_take, hbx, List.take_left' rfl] at hs24
      obtain ⟨v39, hs39, cut39⟩ := hs.loF (m := x.length + 1) (by omega)
      have hy : (b.map byteA).drop ((x.length + 1) * 1) = y.map byteA := by
        rw [Nat.mul_one, ← List.map_drop, hbx]
        congr 1
        rw [List.drop_append, List.drop_eq_nil_of_le (by omega)]
        simp
      rw [hy, show b.length - (x.length + 1) = y.length by omega] at hs39
      (repeat (first | ((first | with_reducible apply Ev_op_of | with_reducible apply EvDn_op_of); (case hp => rfl); (case hv => first | ((with_reducible refine ev_geq ?_ ?_) <;> exact look (an e0 e1)) | exact dfl2 (an e0 e1))) | refine adm (an e0 e1) ?_))
      refine Ev_call (by exact cal Bool.not_true) need_t ?_ (by rintro v h' ⟨e, _⟩; cases e)
      rintro x1 h' ⟨e, eh⟩
      cases e
      have eh' := eh.symm
      subst eh'
      (repeat (first | ((first | with_reducible apply Ev_op_of | with_reducible apply EvDn_op_of); (case hp => rfl); (case hv => first | ((with_reducible refine ev_loadP (c := r) (o := 0) hf rfl ?_) <;> exact look (an e0 e1)) | ((with_reducible refine cut24 _ _ _ .i64 ?_ ?_) <;> exact look (an e0 e1)) | ((with_reducible refine ev_b2s hs24 ?_) <;> exact look (an e0 e1)) | exact dfl2 (an e0 e1))) | refine adm (an e0 e1) ?_))
      refine Ev_call (by exact cal Bool.not_true) (atoi_call (by omega)) ?_ (by rintro v h' ⟨e, _⟩; cases e)
      rintro x1 h' ⟨e, eh⟩
      cases e
      have eh' := eh.symm
      subst eh'
      have hbad : (∀ n, Lib.atoiAll x ≠ .ok n) → atoiA x = .tuple [.bot, .iface 284 .bot] ∧ rdNum b = none := fun hne => by
        unfold atoiA rdNum
        rw [hsp]
        simp only [if_pos h20]
        rcases ha : Lib.atoiAll x with n | _ | _
        · exact absurd ha (hne n)
        · simp
        · simp
      by_cases hok : ∃ n, Lib.atoiAll x = .ok n
      · obtain ⟨n, hn⟩ := hok
        have hA : atoiA x = .tuple [.int .i64 n, .niliface] := by unfold atoiA; rw [hn]
        have hq : rdNum b = some (n, y) := by unfold rdNum; rw [hsp]; simp only [if_pos h20, hn]
        have he : eqA (.iface true oksT) .niliface .niliface = some true := rfl
        have hinc : wrapA .i64 ((x.length : Int) + 1) = ((x.length + 1 : Nat) : Int) := by rw [wrap_i64 (by omega) (by omega)]; omega
        rw [hA]
        (repeat (first | ((first | with_reducible apply Ev_op_of | with_reducible apply EvDn_op_of); (case hp => rfl); (case hv => exact dfl2 he)) | refine adm he ?_))
        refine Ev_call (by exact cal Bool.not_true) need_t ?_ (by rintro v h' ⟨e, _⟩; cases e)
        rintro x1 h' ⟨e, eh⟩
        cases e
        have eh' := eh.symm
        subst eh'
        have st : ∀ {t : Tm} {a z : Opd}, a.ev t = .ptr r 0 → z.ev t = v39 → evOp (.store 1 a z) t h = some (undefA, h.set r (.cells tr [v39] true fz [])) := fun ha hz' => ev_storeP hf ha hz' (isCell_cells (cell_of_rd hs39.rd)) (cell_of_rd hs39.rd) (by simp) (by omega)
        (repeat (first | ((first | with_reducible apply Ev_op_of | with_reducible apply EvDn_op_of); (case hp => rfl); (case hv => first | ((with_reducible refine ev_loadP (c := r) (o := 0) hf rfl ?_) <;> exact look hinc) | ((with_reducible refine cut39 _ _ _ .i64 ?_ ?_) <;> exact look hinc) | ((with_reducible refine st ?_ ?_) <;> exact look hinc) | exact dfl2 hinc)) | refine adm hinc ?_))
        (refine ⟨rfl, _, by exact ret Bool.not_true, ?_⟩)
        refine ⟨Same.set hf (fun j hj => hj), .inl ⟨n, y, hq, rfl, ⟨tr, fz, v39, hz, find_set_same hf, hs39.keep ?_⟩⟩⟩
        exact (Same.set hf (fun j hj => by omega)).keep
      · obtain ⟨hA, hq⟩ := hbad (fun n hn => hok ⟨n, hn⟩)
        have he : eqA (.iface true oksT) (.iface 284 .bot) .niliface = some false := rfl
        rw [hA]
        (repeat (first | ((first | with_reducible apply Ev_op_of | with_reducible apply EvDn_op_of); (case hp => rfl); (case hv => exact dfl2 he)) | refine adm he ?_))
        refine Ev_call (by exact cal Bool.not_true) need_f (by rintro v h' ⟨e, _⟩; cases e) ?_
        rintro v h' ⟨e, eh⟩
        have eh' := eh.symm
        subst eh'
        exact ⟨rfl, Same.refl, .inr ⟨hq, e⟩⟩
    · have e1 : decide ((x.length : Int) ≤ 20) = false := by simp; omega
      have hq : rdNum b = none := by unfold rdNum; rw [hsp]; simp only [if_neg h20]
      (repeat (first | ((first | with_reducible apply Ev_op_of | with_reducible apply EvDn_op_of); (case hp => rfl); (case hv => first | ((with_reducible refine ev_geq ?_ ?_) <;> exact look (an e0 e1)) | exact dfl2 (an e0 e1))) | refine adm (an e0 e1) ?_))
      refine Ev_call (by exact cal Bool.not_true) need_f (by rintro v h' ⟨e, _⟩; cases e) ?_
      rintro v h' ⟨e, eh⟩
      have eh' := eh.symm
      subst eh'
      exact ⟨rfl, Same.refl, .inr ⟨hq, e⟩⟩
end
end Go.AM

/- WHAT THE READER's FUNCTIONS DO, 2: lengths and values. -/
namespace Go.AM
set_option maxRecDepth 10000
set_option linter.unusedSimpArgs false

section
variable {h h' : Heap} {r : Nat} {b : List UInt8} {t : Tm}

theorem res_cell {a bl n ty fz : Nat} {own : Bool} {an : List (Nat × Nat)} {cs : List AV} (ht : getT t a = .ptr bl 0) (hf : h.find bl = some (.cells ty cs own fz an)) (hl : cs.length = n) : resultsA t h [.cell a true n] = some [.agg cs] := by
  simp only [resultsA, resultA, ht, readAt, hf]
  rw [cut_eq (by omega), List.drop_zero, List.take_of_length_le (by omega)]
  rfl

theorem length_ok (hr : Rs h r b) (hb : b.length ≤ 9999999) : CallA progK (.fn 51) [.ptr r 0] h (ReadR (rdLen b) (fun n : Nat => .int .i64 n) r h) := by
  refine CallA_body (by rfl) ?_
  (repeat (first | ((first | with_reducible apply Ev_op_of | with_reducible apply EvDn_op_of); (case hp => rfl); (case hv => exact dfl2 Bool.not_true)) | refine adm Bool.not_true ?_))
  refine Ev_call (by exact cal Bool.not_true) (number_ok hr hb) ?_ (by
    rintro v h1 ⟨hs1, ⟨_, _, _, ex, _⟩ | ⟨e1, ex⟩⟩
    · cases ex
    · exact ⟨rfl, hs1, .inr ⟨by unfold rdLen; rw [e1], ex⟩⟩)
  rintro v h1 ⟨hs1, ⟨n, y, e1, ex, hr1⟩ | ⟨_, ex⟩⟩
  rotate_left
  · cases ex
  cases ex
  obtain ⟨tr, fz, v, hz, hf, hs⟩ := hr1.ex
  have hrd := hs.rd
  by_cases h0 : 0 ≤ n
  · have d0 : decide ((0 : Int) ≤ n) = true := by simpa using h0
    by_cases hn : n ≤ (y.length : Int)
    · have d1 : decide (n ≤ (y.length : Int)) = true := by simpa using hn
      (repeat (first | ((first | with_reducible apply Ev_op_of | with_reducible apply EvDn_op_of); (case hp => rfl); (case hv => first | ((with_reducible refine ev_geq ?_ ?_) <;> exact look (an d0 d1)) | ((with_reducible refine ev_loadP (c := r) (o := 0) hf rfl ?_) <;> exact look (an d0 d1)) | ((with_reducible refine ev_len ?_ hrd) <;> exact look (an d0 d1)) | exact dfl2 (an d0 d1))) | refine adm (an d0 d1) ?_))
      refine Ev_call (by exact cal Bool.not_true) need_t ?_ (by rintro v h' ⟨e, _⟩; cases e)
      rintro x1 h' ⟨e, eh⟩
      cases e
      have eh' := eh.symm
      subst eh'
      (repeat (first | ((first | with_reducible apply Ev_op_of | with_reducible apply EvDn_op_of); (case hp => rfl); (case hv => exact dfl2 Bool.not_true)) | refine adm Bool.not_true ?_))
      (refine ⟨rfl, _, by exact ret Bool.not_true, ?_⟩)
      obtain ⟨m, rfl⟩ : ∃ m : Nat, n = m := ⟨n.toNat, by omega⟩
      exact ⟨hs1, .inl ⟨m, y, by unfold rdLen; rw [e1]; simp only; rw [if_pos ⟨h0, hn⟩]; simp, rfl, hr1⟩⟩
    · have d1 : decide (n ≤ (y.length : Int)) = false := by simpa using hn
      (repeat (first | ((first | with_reducible apply Ev_op_of | with_reducible apply EvDn_op_of); (case hp => rfl); (case hv => first | ((with_reducible refine ev_geq ?_ ?_) <;> exact look (an d0 d1)) | ((with_reducible refine ev_loadP (c := r) (o := 0) hf rfl ?_) <;> exact look (an d0 d1)) | ((with_reducible refine ev_len ?_ hrd) <;> exact look (an d0 d1)) | exact dfl2 (an d0 d1))) | refine adm (an d0 d1) ?_))
      refine Ev_call (by exact cal Bool.not_true) need_f (by rintro v h' ⟨e, _⟩; cases e) ?_
      rintro v h' ⟨e, eh⟩
      have eh' := eh.symm
      subst eh'
      exact ⟨rfl, hs1, .inr ⟨by unfold rdLen; rw [e1]; simp only; rw [if_neg (fun h => hn h.2)], e⟩⟩
  · have d0 : decide ((0 : Int) ≤ n) = false := by simpa using h0
    (repeat (first | ((first | with_reducible apply Ev_op_of | with_reducible apply EvDn_op_of); (case hp => rfl); (case hv => first | ((with_reducible refine ev_geq ?_ ?_) <;> exact look d0) | exact dfl2 d0)) | refine adm d0 ?_))
    refine Ev_call (by exact cal Bool.not_true) need_f (by rintro v h' ⟨e, _⟩; cases e) ?_
    rintro v h' ⟨e, eh⟩
    have eh' := eh.symm
    subst eh'
    exact ⟨rfl, hs1, .inr ⟨by unfold rdLen; rw [e1]; simp only; rw [if_neg (fun h => h0 h.1)], e⟩⟩

set_option maxHeartbeats 8000000 in
theorem rdValue_ok (hr : Rs h r b) (hb : b.length ≤ 9999999) : CallA progK (.fn 94) [.ptr r 0] h (ReadR (rdVal b) (fun v => .agg (svC v)) r h) := by
  refine CallA_body (by rfl) ?_
  have hrn := hr.lt
  obtain ⟨b2, hb2⟩ : ∃ b2, b2 = h.next := ⟨_, rfl⟩
  obtain ⟨k0, hk0⟩ : ∃ k0, k0 = h.push (.cells 61 [.int .i64 0, .int .i64 0, .int .i64 0, .int .i64 0, .int .i64 0, .str []] true 1 []) := ⟨_, rfl⟩
  have n0 : k0.next = b2 + 1 := by rw [hk0, hb2]; rfl
  have s0 : Same (fun j => j < h.next) h k0 := by rw [hk0]; exact Same.push
  have f20 : k0.find b2 = some (.cells 61 [.int .i64 0, .int .i64 0, .int .i64 0, .int .i64 0, .int .i64 0, .str []] true 1 []) := by rw [hk0, hb2]; exact find_push_new
  have r0 : Rs k0 r b := hr.same (s0.sub fun j hj => by omega)
  have al0 : ∀ {t : Tm}, evOp (.alloc 61 [.int .i64 0, .int .i64 0, .int .i64 0, .int .i64 0, .int .i64 0, .str []]) t h = some (.ptr b2 0, k0) := by intro t; rw [hk0, hb2]; rfl
  (repeat (first | ((first | with_reducible apply Ev_op_of | with_reducible apply EvDn_op_of); (case hp => rfl); (case hv => first | ((with_reducible refine al0) <;> exact look Bool.not_true) | exact dfl2 Bool.not_true)) | refine adm Bool.not_true ?_))
  refine Ev_call (by exact cal Bool.not_true) (number_ok r0 hb) ?_ (by
    rintro v h1 ⟨hs1, ⟨_, _, _, ex, _⟩ | ⟨e1, ex⟩⟩
    · cases ex
    · exact ⟨rfl, (s0.sub' (hs1.sub fun j hj => hj)), .inr ⟨by unfold rdVal; simp only [e1, Option.bind_none], ex⟩⟩)
  rintro v k1 ⟨hs1, ⟨n1, y1, e1, ex, r1⟩ | ⟨_, ex⟩⟩
  rotate_left
  · cases ex
  cases ex
  have l1 := (rdNum_len e1).2
  have S1 : Same (fun j => j ≠ r) h k1 := s0.sub' hs1
  have f21 := hs1.find (j := b2) (by omega) f20
  obtain ⟨b3, hb3⟩ : ∃ b3, b3 = k1.next := ⟨_, rfl⟩
  have n1' := hs1.next
  obtain ⟨kb, hkb⟩ : ∃ kb, kb = (k1.push (.cells 61 [.int .i64 0, .int .i64 0, .int .i64 0, .int .i64 0, .int .i64 0, .str []] true 1 [])).set b3 (.cells 61 [.int .i64 n1, .int .i64 0, .int .i64 0, .int .i64 0, .int .i64 0, .str []] true 1 []) := ⟨_, rfl⟩
  have sb : Same (fun j => j < k1.next) k1 kb := by rw [hkb, hb3]; exact Same.pushset
  have f3b : kb.find b3 = some (.cells 61 [.int .i64 n1, .int .i64 0, .int .i64 0, .int .i64 0, .int .i64 0, .str []] true 1 []) := by rw [hkb, hb3]; exact find_set_same find_push_new
  have f2b := sb.find (j := b2) (by omega) f21
  have rb : Rs kb r y1 := r1.same (sb.sub fun j hj => by omega)
  have Sb : Same (fun j => j ≠ r) h kb := S1.trans' (sb.sub fun j hj => by omega)
  have bu : ∀ {t : Tm} {x : Opd}, x.ev t = .int .i64 n1 → evOp (.build [.int .i64 0, .int .i64 0, .int .i64 0, .int .i64 0, .int .i64 0, .str []] [(0, 1, x)]) t k1 = some (.agg [.int .i64 n1, .int .i64 0, .int .i64 0, .int .i64 0, .int .i64 0, .str []], k1) := fun hx => by simp only [evOp, evParts, hx]; rfl
  have alb : ∀ {t : Tm}, evOp (.alloc 61 [.int .i64 0, .int .i64 0, .int .i64 0, .int .i64 0, .int .i64 0, .str []]) t k1 = some (.ptr b3 0, k1.push (.cells 61 [.int .i64 0, .int .i64 0, .int .i64 0, .int .i64 0, .int .i64 0, .str []] true 1 [])) := by intro t; rw [hb3]; rfl
  have stb : ∀ {t : Tm} {a x : Opd}, a.ev t = .ptr b3 0 → x.ev t = .agg [.int .i64 n1, .int .i64 0, .int .i64 0, .int .i64 0, .int .i64 0, .str []] → evOp (.store 6 a x) t (k1.push (.cells 61 [.int .i64 0, .int .i64 0, .int .i64 0, .int .i64 0, .int .i64 0, .str []] true 1 [])) = some (undefA, kb) := fun ha hx => by
    rw [hkb]; exact ev_storeN (b := b3) (by rw [hb3]; exact find_push_new) ha hx rfl rfl rfl (by decide)
  (repeat (first | ((first | with_reducible apply Ev_op_of | with_reducible apply EvDn_op_of); (case hp => rfl); (case hv => first | ((with_reducible refine bu ?_) <;> exact look Bool.not_true) | ((with_reducible refine alb) <;> exact look Bool.not_true) | ((with_reducible refine stb ?_ ?_) <;> exact look Bool.not_true) | exact dfl2 Bool.not_true)) | refine adm Bool.not_true ?_))

  refine Ev_call (by exact cal Bool.not_true) (number_ok rb (by omega)) ?_ (by
    rintro v h1 ⟨hs1, ⟨_, _, _, ex, _⟩ | ⟨ee, ex⟩⟩
    · cases ex
    · exact ⟨rfl, Sb.trans hs1, .inr ⟨by unfold rdVal; simp only [e1, ee, Option.bind_some, Option.bind_none], ex⟩⟩)
  rintro v k2 ⟨hs2, ⟨n2, y2, e2, ex, r2⟩ | ⟨_, ex⟩⟩
  rotate_left
  · cases ex
  cases ex
  have l2 := (rdNum_len e2).2
  have f22 := hs2.find (j := b2) (by omega) f2b
  have f32 := hs2.find (j := b3) (by omega) f3b
  obtain ⟨m2, hm2⟩ : ∃ m2, m2 = k2.set b3 (.cells 61 [.int .i64 n1, .int .i64 n2, .int .i64 0, .int .i64 0, .int .i64 0, .str []] true 1 []) := ⟨_, rfl⟩
  have st2 : ∀ {t : Tm} {a x : Opd}, a.ev t = .ptr b3 1 → x.ev t = .int .i64 n2 → evOp (.store 1 a x) t k2 = some (undefA, m2) := fun ha hx => by rw [hm2]; exact ev_storeP f32 ha hx rfl rfl (by simp) (by omega)
  have g32 : m2.find b3 = some (.cells 61 [.int .i64 n1, .int .i64 n2, .int .i64 0, .int .i64 0, .int .i64 0, .str []] true 1 []) := by rw [hm2]; exact find_set_same f32
  have s2 : Same (fun j => j ≠ b3) k2 m2 := by rw [hm2]; exact Same.set f32 (fun j hj => hj)
  have g22 := s2.find (j := b2) (by omega) f22
  have q2 : Rs m2 r y2 := r2.same (s2.sub fun j hj => by omega)
  have T2 : Same (fun j => j ≠ r) h m2 := (Sb.trans hs2).trans' (s2.sub fun j hj => by omega)
  (repeat (first | ((first | with_reducible apply Ev_op_of | with_reducible apply EvDn_op_of); (case hp => rfl); (case hv => first | ((with_reducible refine st2 ?_ ?_) <;> exact look Bool.not_true) | exact dfl2 Bool.not_true)) | refine adm Bool.not_true ?_))
  have rm2 := q2
  have Sm2 := T2
  have f2m2 := g22
  have f3m2 := g32
  refine Ev_call (by exact cal Bool.not_true) (number_ok rm2 (by omega)) ?_ (by
    rintro v h1 ⟨hs1, ⟨_, _, _, ex, _⟩ | ⟨ee, ex⟩⟩
    · cases ex
    · exact ⟨rfl, Sm2.trans hs1, .inr ⟨by unfold rdVal; simp only [e1, e2, ee, Option.bind_some, Option.bind_none], ex⟩⟩)
  rintro v k3 ⟨hs3, ⟨n3, y3, e3, ex, r3⟩ | ⟨_, ex⟩⟩
  rotate_left
  · cases ex
  cases ex
  have l3 := (rdNum_len e3).2
  have f23 := hs3.find (j := b2) (by omega) f2m2
  have f33 := hs3.find (j := b3) (by omega) f3m2
  obtain ⟨m3, hm3⟩ : ∃ m3, m3 = k3.set b3 (.cells 61 [.int .i64 n1, .int .i64 n2, .int .i64 n3, .int .i64 0, .int .i64 0, .str []] true 1 []) := ⟨_, rfl⟩
  have st3 : ∀ {t : Tm} {a x : Opd}, a.ev t = .ptr b3 2 → x.ev t = .int .i64 n3 → evOp (.store 1 a x) t k3 = some (undefA, m3) := fun ha hx => by rw [hm3]; exact ev_storeP f33 ha hx rfl rfl (by simp) (by omega)
  have g33 : m3.find b3 = some (.cells 61 [.int .i64 n1, .int .i64 n2, .int .i64 n3, .int .i64 0, .int .i64 0, .str []] true 1 []) := by rw [hm3]; exact find_set_same f33
  have s3 : Same (fun j => j ≠ b3) k3 m3 := by rw [hm3]; exact Same.set f33 (fun j hj => hj)
  have g23 := s3.find (j := b2) (by omega) f23
  have q3 : Rs m3 r y3 := r3.same (s3.sub fun j hj => by omega)
  have T3 : Same (fun j => j ≠ r) h m3 := (Sm2.trans hs3).trans' (s3.sub fun j hj => by omega)
  (repeat (first | ((first | with_reducible apply Ev_op_of | with_reducible apply EvDn_op_of); (case hp => rfl); (case hv => first | ((with_reducible refine st3 ?_ ?_) <;> exact look Bool.not_true) | exact dfl2 Bool.not_true)) | refine adm Bool.not_true ?_))
  have rm3 := q3
  have Sm3 := T3
  have f2m3 := g23
  have f3m3 := g33
  refine Ev_call (by exact cal Bool.not_true) (number_ok rm3 (by omega)) ?_ (by
    rintro v h1 ⟨hs1, ⟨_, _, _, ex, _⟩ | ⟨ee, ex⟩⟩
    · cases ex
    · exact ⟨rfl, Sm3.trans hs1, .inr ⟨by unfold rdVal; simp only [e1, e2, e3, ee, Option.bind_some, Option.bind_none], ex⟩⟩)
  rintro v k4 ⟨hs4, ⟨n4, y4, e4, ex, r4⟩ | ⟨_, ex⟩⟩
  rotate_left
  · cases ex
  cases ex
  have l4 := (rdNum_len e4).2
  have f24 := hs4.find (j := b2) (by omega) f2m3
  have f34 := hs4.find (j := b3) (by omega) f3m3
  obtain ⟨m4, hm4⟩ : ∃ m4, m4 = k4.set b3 (.cells 61 [.int .i64 n1, .int .i64 n2, .int .i64 n3, .int .i64 n4, .int .i64 0, .str []] true 1 []) := ⟨_, rfl⟩
  have st4 : ∀ {t : Tm} {a x : Opd}, a.ev t = .ptr b3 3 → x.ev t = .int .i64 n4 → evOp (.store 1 a x) t k4 = some (undefA, m4) := fun ha hx => by rw [hm4]; exact ev_storeP f34 ha hx rfl rfl (by simp) (by omega)
  have g34 : m4.find b3 = some (.cells 61 [.int .i64 n1, .int .i64 n2, .int .i64 n3, .int .i64 n4, .int .i64 0, .str []] true 1 []) := by rw [hm4]; exact find_set_same f34
  have s4 : Same (fun j => j ≠ b3) k4 m4 := by rw [hm4]; exact Same.set f34 (fun j hj => hj)
  have g24 := s4.find (j := b2) (by omega) f24
  have q4 : Rs m4 r y4 := r4.same (s4.sub fun j hj => by omega)
  have T4 : Same (fun j => j ≠ r) h m4 := (Sm3.trans hs4).trans' (s4.sub fun j hj => by omega)
  (repeat (first | ((first | with_reducible apply Ev_op_of | with_reducible apply EvDn_op_of); (case hp => rfl); (case hv => first | ((with_reducible refine st4 ?_ ?_) <;> exact look Bool.not_true) | exact dfl2 Bool.not_true)) | refine adm Bool.not_true ?_))
  have rm4 := q4
  have Sm4 := T4
  have f2m4 := g24
  have f3m4 := g34
  refine Ev_call (by exact cal Bool.not_true) (number_ok rm4 (by omega)) ?_ (by
    rintro v h1 ⟨hs1, ⟨_, _, _, ex, _⟩ | ⟨ee, ex⟩⟩
    · cases ex
    · exact ⟨rfl, Sm4.trans hs1, .inr ⟨by unfold rdVal; simp only [e1, e2, e3, e4, ee, Option.bind_some, Option.bind_none], ex⟩⟩)
  rintro v k5 ⟨hs5, ⟨n5, y5, e5, ex, r5⟩ | ⟨_, ex⟩⟩
  rotate_left
  · cases ex
  cases ex
  have l5 := (rdNum_len e5).2
  have f25 := hs5.find (j := b2) (by omega) f2m4
  have f35 := hs5.find (j := b3) (by omega) f3m4
  obtain ⟨m5, hm5⟩ : ∃ m5, m5 = k5.set b3 (.cells 61 [.int .i64 n1, .int .i64 n2, .int .i64 n3, .int .i64 n4, .int .i64 n5, .str []] true 1 []) := ⟨_, rfl⟩
  have st5 : ∀ {t : Tm} {a x : Opd}, a.ev t = .ptr b3 4 → x.ev t = .int .i64 n5 → evOp (.store 1 a x) t k5 = some (undefA, m5) := fun ha hx => by rw [hm5]; exact ev_storeP f35 ha hx rfl rfl (by simp) (by omega)
  have g35 : m5.find b3 = some (.cells 61 [.int .i64 n1, .int .i64 n2, .int .i64 n3, .int .i64 n4, .int .i64 n5, .str []] true 1 []) := by rw [hm5]; exact find_set_same f35
  have s5 : Same (fun j => j ≠ b3) k5 m5 := by rw [hm5]; exact Same.set f35 (fun j hj => hj)
  have g25 := s5.find (j := b2) (by omega) f25
  have q5 : Rs m5 r y5 := r5.same (s5.sub fun j hj => by omega)
  have T5 : Same (fun j => j ≠ r) h m5 := (Sm4.trans hs5).trans' (s5.sub fun j hj => by omega)
  (repeat (first | ((first | with_reducible apply Ev_op_of | with_reducible apply EvDn_op_of); (case hp => rfl); (case hv => first | ((with_reducible refine st5 ?_ ?_) <;> exact look Bool.not_true) | exact dfl2 Bool.not_true)) | refine adm Bool.not_true ?_))
  have rm5 := q5
  have Sm5 := T5
  have f2m5 := g25
  have f3m5 := g35
  refine Ev_call (by exact cal Bool.not_true) (length_ok rm5 (by omega)) ?_ (by
    rintro v h1 ⟨hs1, ⟨_, _, _, ex, _⟩ | ⟨ee, ex⟩⟩
    · cases ex
    · exact ⟨rfl, Sm5.trans hs1, .inr ⟨by unfold rdVal; simp only [e1, e2, e3, e4, e5, ee, Option.bind_some, Option.bind_none], ex⟩⟩)
  rintro v k6 ⟨hs6, ⟨n6, y6, e6, ex, r6⟩ | ⟨_, ex⟩⟩
  rotate_left
  · cases ex
  cases ex
  have l6 := rdLen_len e6
  have f26 := hs6.find (j := b2) (by omega) f2m5
  have f36 := hs6.find (j := b3) (by omega) f3m5
  have S6 := Sm5.trans hs6
  obtain ⟨tr, fz, v6, hz, hf, hs⟩ := r6.ex
  obtain ⟨v29, hs29, cut29⟩ := hs.hiF (m := n6) l6.2
  rw [Nat.mul_one, ← List.map_take] at hs29
  have hs29' : Sl k6 (fun j => j < r) 1 v29 (y6.take n6).length ((y6.take n6).map byteA) := by rw [List.length_take, Nat.min_eq_left l6.2]; exact hs29
  obtain ⟨k7, hk7⟩ : ∃ k7, k7 = k6.set b3 (.cells 61 [.int .i64 n1, .int .i64 n2, .int .i64 n3, .int .i64 n4, .int .i64 n5, .str (y6.take n6)] true 1 []) := ⟨_, rfl⟩
  have st6 : ∀ {t : Tm} {a x : Opd}, a.ev t = .ptr b3 5 → x.ev t = .str (y6.take n6) → evOp (.store 1 a x) t k6 = some (undefA, k7) := fun ha hx => by rw [hk7]; exact ev_storeP f36 ha hx rfl rfl (by simp) (by omega)
  have f37 : k7.find b3 = some (.cells 61 [.int .i64 n1, .int .i64 n2, .int .i64 n3, .int .i64 n4, .int .i64 n5, .str (y6.take n6)] true 1 []) := by rw [hk7]; exact find_set_same f36
  have s7 : Same (fun j => j ≠ b3) k6 k7 := by rw [hk7]; exact Same.set f36 (fun j hj => hj)
  have f27 := s7.find (j := b2) (by omega) f26
  have hf7 := s7.find (j := r) (by omega) hf
  have hs7 := hs.keep (s7.sub (S' := fun j => j < r) fun j hj => by omega).keep
  obtain ⟨v39, hs39, cut39⟩ := hs7.loF (m := n6) l6.2
  rw [Nat.mul_one, ← List.map_drop] at hs39
  obtain ⟨k8, hk8⟩ : ∃ k8, k8 = k7.set r (.cells tr [v39] true fz []) := ⟨_, rfl⟩
  have st8 : ∀ {t : Tm} {a x : Opd}, a.ev t = .ptr r 0 → x.ev t = v39 → evOp (.store 1 a x) t k7 = some (undefA, k8) := fun ha hx => by rw [hk8]; exact ev_storeP hf7 ha hx (isCell_cells (cell_of_rd hs39.rd)) (cell_of_rd hs39.rd) (by simp) (by omega)
  have s8 : Same (fun j => j ≠ r) k7 k8 := by rw [hk8]; exact Same.set hf7 (fun j hj => hj)
  have f28 := s8.find (j := b2) (by omega) f27
  have f38 := s8.find (j := b3) (by omega) f37
  have r8 : Rs k8 r (y6.drop n6) := ⟨tr, fz, v39, hz, by rw [hk8]; exact find_set_same hf7, by rw [List.length_drop]; exact hs39.keep (s8.sub fun j hj => by omega).keep⟩
  have S8 : Same (fun j => j ≠ r) h k8 := (S6.trans' (s7.sub fun j hj => by omega)).trans s8
  obtain ⟨k9, hk9⟩ : ∃ k9, k9 = k8.set b2 (.cells 61 (svC ⟨n1, n2, n3, n4, n5, y6.take n6⟩) true 1 []) := ⟨_, rfl⟩
  have l36 : 0 + 6 ≤ (svC ⟨n1, n2, n3, n4, n5, y6.take n6⟩).length := by rw [svC_len]; omega
  have ld9 : ∀ {t : Tm} {x : Opd}, x.ev t = .ptr b3 0 → evOp (.load true 6 x) t k8 = some (.agg (svC ⟨n1, n2, n3, n4, n5, y6.take n6⟩), k8) := fun hx => ev_loadA f38 l36 rfl hx
  have st9 : ∀ {t : Tm} {a x : Opd}, a.ev t = .ptr b2 0 → x.ev t = .agg (svC ⟨n1, n2, n3, n4, n5, y6.take n6⟩) → evOp (.store 6 a x) t k8 = some (undefA, k9) := fun ha hx => by rw [hk9]; exact ev_storeN f28 ha hx rfl rfl rfl (by decide)
  have f29 : k9.find b2 = some (.cells 61 (svC ⟨n1, n2, n3, n4, n5, y6.take n6⟩) true 1 []) := by rw [hk9]; exact find_set_same f28
  have s9 : Same (fun j => j ≠ b2) k8 k9 := by rw [hk9]; exact Same.set f28 (fun j hj => hj)
  (repeat (first | ((first | with_reducible apply Ev_op_of | with_reducible apply EvDn_op_of); (case hp => rfl); (case hv => first | ((with_reducible refine ev_loadP (c := r) (o := 0) hf rfl ?_) <;> exact look Bool.not_true) | ((with_reducible refine cut29 _ _ _ .i64 ?_ ?_) <;> exact look Bool.not_true) | ((with_reducible refine ev_b2s hs29' ?_) <;> exact look Bool.not_true) | ((with_reducible refine st6 ?_ ?_) <;> exact look Bool.not_true) | exact dfl2 Bool.not_true)) | refine adm Bool.not_true ?_))
  (repeat (first | ((first | with_reducible apply Ev_op_of | with_reducible apply EvDn_op_of); (case hp => rfl); (case hv => first | ((with_reducible refine ev_loadP (c := r) (o := 0) hf7 rfl ?_) <;> exact look Bool.not_true) | ((with_reducible refine cut39 _ _ _ .i64 ?_ ?_) <;> exact look Bool.not_true) | ((with_reducible refine st8 ?_ ?_) <;> exact look Bool.not_true) | exact dfl2 Bool.not_true)) | refine adm Bool.not_true ?_))
  (repeat (first | ((first | with_reducible apply Ev_op_of | with_reducible apply EvDn_op_of); (case hp => rfl); (case hv => first | ((with_reducible refine ld9 ?_) <;> exact look Bool.not_true) | ((with_reducible refine st9 ?_ ?_) <;> exact look Bool.not_true) | exact dfl2 Bool.not_true)) | refine adm Bool.not_true ?_))
  refine ⟨rfl, _, res_cell (by exact look Bool.not_true) f29 rfl, ?_⟩
  refine ⟨S8.trans' (s9.sub fun j hj => by omega), .inl ⟨_, _, ?_, rfl, r8.same (s9.sub fun j hj => by omega)⟩⟩
  unfold rdVal
  simp only [e1, e2, e3, e4, e5, e6, Option.bind_some]
end
end Go.AM

/- WHAT THE READER's FUNCTIONS DO, 3: lists of values. -/
namespace Go.AM
set_option maxRecDepth 10000
set_option linter.unusedSimpArgs false

theorem rdN_none {α : Type} {f : Rdr α} {n : Nat} {y : List UInt8} (hn : 0 < n) (h : f y = none) : rdN f n y = none := by
  cases n with
  | zero => omega
  | succ n => simp only [rdN, h, Option.bind_none]
theorem rdN_some {α : Type} {f : Rdr α} {n : Nat} {y z : List UInt8} {x : α} (hn : 0 < n) (h : f y = some (x, z)) : rdN f n y = (rdN f (n - 1) z).bind fun q => some (x :: q.1, q.2) := by
  cases n with
  | zero => omega
  | succ n => simp only [rdN, h, Option.bind_some, Nat.add_sub_cancel]

/-- what has been read of n elements -/
def RdSoFar {α : Type} (f : Rdr α) (n i : Nat) (y0 y : List UInt8) (out : List α) : Prop := rdN f n y0 = (rdN f (n - i) y).bind fun q => some (out ++ q.1, q.2)

theorem RdSoFar.start {α : Type} {f : Rdr α} {n : Nat} {y0 : List UInt8} : RdSoFar f n 0 y0 y0 [] := by
  unfold RdSoFar
  cases rdN f (n - 0) y0 with
  | none => rfl
  | some q => rfl
theorem RdSoFar.step {α : Type} {f : Rdr α} {n i : Nat} {y0 y z : List UInt8} {out : List α} {x : α} (hs : RdSoFar f n i y0 y out) (hi : i < n) (h : f y = some (x, z)) : RdSoFar f n (i + 1) y0 z (out ++ [x]) := by
  unfold RdSoFar at hs ⊢
  rw [hs, rdN_some (by omega) h, show n - i - 1 = n - (i + 1) by omega]
  cases rdN f (n - (i + 1)) z with
  | none => rfl
  | some q => simp
theorem RdSoFar.fail {α : Type} {f : Rdr α} {n i : Nat} {y0 y : List UInt8} {out : List α} (hs : RdSoFar f n i y0 y out) (hi : i < n) (h : f y = none) : rdN f n y0 = none := by
  unfold RdSoFar at hs
  rw [hs, rdN_none (by omega) h]; rfl
theorem RdSoFar.done {α : Type} {f : Rdr α} {n : Nat} {y0 y : List UInt8} {out : List α} (hs : RdSoFar f n n y0 y out) : rdN f n y0 = some (out, y) := by
  unfold RdSoFar at hs
  rw [hs, Nat.sub_self]; simp [rdN]

section
variable {h h' : Heap} {r : Nat} {b : List UInt8} {t : Tm}

/-- what is read lies in new blocks -/
def ReadN {α : Type} (q : Option (α × List UInt8)) (is : Heap → AV → α → Prop) (r : Nat) (h : Heap) (x : ARes) (h' : Heap) : Prop :=
  Same (fun j => j ≠ r) h h' ∧ ((∃ l y v, q = some (l, y) ∧ x = .ret v ∧ is h' v l ∧ Rs h' r y) ∨ (q = none ∧ x = .pan unreadV))

/-- a slice in memory -/
def notP (v : AV) : Prop := ∀ cs o n c, v ≠ .pslice cs o n c
theorem Own.notP {S : Nat → Prop} {ty e n : Nat} {v : AV} {cs : List AV} (ho : Own h S ty e v n cs) : notP v := by
  rcases ho with ⟨rfl, _⟩ | ⟨b, anc, rfl, _⟩ <;> (intro cs o n c e; cases e)
theorem sameA_sl {e n : Nat} {v : AV} {cs : List AV} (hr : Reads h e v n cs) (hp : notP v) : sameA v v = true := by
  have h1 := hr.1
  have h2 := hr.2.2.1
  cases v <;> simp only [lenA, reduceCtorEq] at h1
  · exact absurd rfl (h2 _)
  · rfl
  · simp [sameA]
  · exact absurd rfl (hp _ _ _ _)
  · rfl

abbrev vZ : List AV := [(.int .i64 0), (.int .i64 0), (.int .i64 0), (.int .i64 0), (.int .i64 0), (.str [])]

theorem svC_cells (v : SV) : allCells (svC v) = true := rfl

set_option maxHeartbeats 4000000 in
theorem values_ok (hr : Rs h r b) (hb : b.length ≤ 9999999) : CallA progK (.fn 95) [.ptr r 0] h (ReadN (rdVals b) (fun k v l => RdVals k (fun j => h.next ≤ j) v l ∧ notP v) r h) := by
  refine CallA_body (by rfl) ?_
  have hrn := hr.lt
  (repeat (first | ((first | with_reducible apply Ev_op_of | with_reducible apply EvDn_op_of); (case hp => rfl); (case hv => exact dfl2 Bool.not_true)) | refine adm Bool.not_true ?_))
  refine Ev_call (by exact cal Bool.not_true) (length_ok hr hb) ?_ (by
    rintro v h1 ⟨hs1, ⟨_, _, _, ex, _⟩ | ⟨e1, ex⟩⟩
    · cases ex
    · exact ⟨rfl, hs1, .inr ⟨by unfold rdVals; simp only [e1, Option.bind_none], ex⟩⟩)
  rintro v k0 ⟨hs0, ⟨n, y0, e0, ex, r0⟩ | ⟨_, ex⟩⟩
  rotate_left
  · cases ex
  cases ex
  have l0 := rdLen_len e0
  have hq : rdVals b = rdN rdVal n y0 := by unfold rdVals; simp only [e0, Option.bind_some]
  (repeat (first | ((first | with_reducible apply Ev_op_of | with_reducible apply EvDn_op_of); (case hp => rfl); (case hv => exact dfl2 Bool.not_true)) | refine adm Bool.not_true ?_))
  refine Ev_loopH (fun t k => ∃ (i : Nat) (ov : AV) (out : List SV) (y : List UInt8), i ≤ n ∧ getT t 0 = .ptr r 0 ∧ getT t 3 = ov ∧ getT t 5 = .int .i64 (n : Nat) ∧ getT t 6 = .int .i64 i ∧ Rs k r y ∧ y.length ≤ 9999999 ∧ out.length = i ∧
      Own k (fun j => h.next ≤ j) 61 6 ov i (out.flatMap svC) ∧ Same (fun j => j ≠ r) h k ∧ RdSoFar rdVal n i y0 y out)
    (fun t _ => cntA n (getT t 6)) ⟨0, .nilslice, [], y0, Nat.zero_le _, by exact look Bool.not_true, by exact look Bool.not_true, by exact look Bool.not_true, (by exact look Int.natCast_zero), r0, by omega, rfl, Own.nil, hs0, RdSoFar.start⟩ ?_
  rintro t k ⟨i, ov, out, y, hi, g0, g3, g5, g6, rk, hy, ho, hown, hsk, hso⟩
  by_cases hlt : i < n
  · have hd := lt_dec hlt
    have hinc := inc_nat hlt (by omega)
    (repeat (first | ((first | with_reducible apply Ev_op_of | with_reducible apply EvDn_op_of); (case hp => rfl); (case hv => exact dfl2 (an g0 (an g3 (an g5 (an g6 hd)))))) | refine adm (an g0 (an g3 (an g5 (an g6 hd)))) ?_))
    refine Ev_call (by exact cal g0) (rdValue_ok rk hy) ?_ (by
      rintro v h1 ⟨hs1, ⟨_, _, _, ex, _⟩ | ⟨ee, ex⟩⟩
      · cases ex
      · exact EvX_pan.2 ⟨rfl, hsk.trans hs1, .inr ⟨by rw [hq]; exact hso.fail hlt ee, ex⟩⟩)
    rintro v k1 ⟨hs1, ⟨x, z, e1, ex, r1⟩ | ⟨_, ex⟩⟩
    rotate_left
    · cases ex
    cases ex
    have hz := (rdVal_len e1 hy).2.1
    have hS1 := hsk.trans hs1
    have hn1 := hS1.next
    have own1 : Own k1 (fun j => h.next ≤ j) 61 6 ov i (out.flatMap svC) :=
      (Own.same (S := fun j => h.next ≤ j ∧ j ≠ r) (hown.sub fun j hj _ => ⟨hj, by omega⟩) (hs1.sub fun j hj => hj.2)).sub fun j hj _ => hj.1
    have bl : ∀ {t : Tm} {a : Opd}, a.ev t = .agg (svC x) → evOp (.buildSlice 61 vZ 6 1 [(0, a)]) t k1 = some (.slice k1.next 0 1 (some 1) 6, k1.push (.cells 61 (svC x) true 1 [])) := fun ha => ev_build1 (v := .agg (svC x)) ha rfl rfl rfl
    have own2 : Own (k1.push (.cells 61 (svC x) true 1 [])) (fun j => h.next ≤ j) 61 6 ov i (out.flatMap svC) := own1.same Same.push
    have sl2 : Sl (k1.push (.cells 61 (svC x) true 1 [])) (fun j => h.next ≤ j) 6 (.slice k1.next 0 1 (some 1) 6) 1 (svC x) := Sl.fresh (by omega) rfl (by intro k hk; cases hk; omega)
    obtain ⟨v3, k3, ap3, own3, _, sm3⟩ := own2.appendF (bytes := 56) (zero := vZ) (u := .slice k1.next 0 1 (some 1) 6) (m := 1) rfl sl2.source (svC_cells x) rfl (by omega) (by omega) (by unfold roomA; omega) (by rw [push_next]; omega)
    have s3 : Same (fun j => j < h.next) k1 k3 := Same.push.trans (sm3 _ (fun j hj hj2 => by omega))
    (repeat (first | ((first | with_reducible apply Ev_op_of | with_reducible apply EvDn_op_of); (case hp => rfl); (case hv => first | ((with_reducible refine bl ?_) <;> exact look (an g0 (an g3 (an g5 (an g6 hinc))))) | ((with_reducible refine ap3 _ _ _ ?_ ?_) <;> exact look (an g0 (an g3 (an g5 (an g6 hinc))))) | exact dfl2 (an g0 (an g3 (an g5 (an g6 hinc)))))) | refine adm (an g0 (an g3 (an g5 (an g6 hinc)))) ?_))
    refine ⟨rfl, ⟨i + 1, v3, out ++ [x], z, hlt, by exact look g0, by exact look Bool.not_true, by exact look g5, by exact look Bool.not_true, r1.same (s3.sub fun j hj => by omega), by omega, by simp [ho], by simpa using own3, hS1.trans' s3, hso.step hlt e1⟩, by simp (decide := true) only [putD, getT_setT, if_true, g6, cntA_int, if_false]; exact Nat.sub_lt_sub_left hlt (Nat.lt_succ_self i)⟩
  · have hd := nlt_dec hlt
    obtain rfl : i = n := by omega
    (repeat (first | ((first | with_reducible apply Ev_op_of | with_reducible apply EvDn_op_of); (case hp => rfl); (case hv => exact dfl2 (an g0 (an g3 (an g5 (an g6 hd)))))) | refine adm (an g0 (an g3 (an g5 (an g6 hd)))) ?_))
    (refine ⟨rfl, _, by exact ret Bool.not_true, ?_⟩)
    refine ⟨hsk, .inl ⟨out, y, ov, by rw [hq]; exact hso.done, rfl, ⟨?_, hown.notP⟩, rk⟩⟩
    show Sl k _ 6 ov out.length _
    rw [ho]
    exact hown.sl
end
end Go.AM

/- WHAT THE READER's FUNCTIONS DO, 4: frames. -/
namespace Go.AM
set_option maxRecDepth 10000
set_option linter.unusedSimpArgs false

section
variable {h h' : Heap} {r : Nat} {b : List UInt8} {t : Tm}

theorem ev_storeA {bl o n ty : Nat} {cs vs : List AV} {a x : Opd} (hf : h.find bl = some (.cells ty cs true 1 [])) (ha : a.ev t = .ptr bl o) (hx : x.ev t = .agg vs) (hl : vs.length = n) (hz : o + n ≤ cs.length) (hc : allCells vs = true) (hn : 0 < n) :
    evOp (.store n a x) t h = some (undefA, h.set bl (.cells ty (cs.take o ++ vs ++ cs.drop (o + n)) true 1 [])) := by
  simp only [evOp, ha, hx, AV.cells, hl, if_true]
  rw [writeAt_eq hf (by omega) hc (by omega) (by intro e; subst e; simp at hl; omega), hl]

set_option maxHeartbeats 16000000 in
theorem rdFrame_ok (hr : Rs h r b) (hb : b.length ≤ 9999999) : CallA progK (.fn 54) [.ptr r 0] h fun x h' => Same (fun j => j ≠ r) h h' ∧
    ((∃ (p : FP) (y : List UInt8), rdFr b = some (p.1, y) ∧ x = .ret (.agg (frC p)) ∧ (FrOK h' (fun j => h.next ≤ j) p ∧ notP p.2.2) ∧ Rs h' r y) ∨ (rdFr b = none ∧ x = .pan unreadV)) := by
  refine CallA_body (by rfl) ?_
  have hrn := hr.lt
  obtain ⟨b2, hb2⟩ : ∃ b2, b2 = h.next := ⟨_, rfl⟩
  obtain ⟨k0, hk0⟩ : ∃ k0, k0 = h.push (.cells 64 frZ true 1 []) := ⟨_, rfl⟩
  have x0 : k0.next = b2 + 1 := by rw [hk0, hb2]; rfl
  have s0 : Same (fun j => j < h.next) h k0 := by rw [hk0]; exact Same.push
  have f20 : k0.find b2 = some (.cells 64 frZ true 1 []) := by rw [hk0, hb2]; exact find_push_new
  have r0 : Rs k0 r b := hr.same (s0.sub fun j hj => by omega)
  have al0 : ∀ {t : Tm}, evOp (.alloc 64 frZ) t h = some (.ptr b2 0, k0) := by intro t; rw [hk0, hb2]; rfl
  (repeat (first | ((first | with_reducible apply Ev_op_of | with_reducible apply EvDn_op_of); (case hp => rfl); (case hv => first | ((with_reducible refine al0) <;> exact look Bool.not_true) | exact dfl2 Bool.not_true)) | refine adm Bool.not_true ?_))
  refine Ev_call (by exact cal Bool.not_true) (number_ok r0 hb) ?_ (by
    rintro v h1 ⟨hs1, ⟨_, _, _, ex, _⟩ | ⟨e1, ex⟩⟩
    · cases ex
    · exact ⟨rfl, (s0.sub' (hs1.sub fun j hj => hj)), .inr ⟨by unfold rdFr; simp only [e1, Option.bind_none], ex⟩⟩)
  rintro v k1 ⟨hs1, ⟨n1, y1, e1, ex, r1⟩ | ⟨_, ex⟩⟩
  rotate_left
  · cases ex
  cases ex
  have l1 := (rdNum_len e1).2
  have S1 : Same (fun j => j ≠ r) h k1 := s0.sub' hs1
  have f21 := hs1.find (j := b2) (by omega) f20
  obtain ⟨b3, hb3⟩ : ∃ b3, b3 = k1.next := ⟨_, rfl⟩
  have x1 := hs1.next
  obtain ⟨m1, hm1⟩ : ∃ m1, m1 = (k1.push (.cells 64 frZ true 1 [])).set b3 (.cells 64 [.int .i64 n1, .int .i64 0, .int .i64 0, .int .i64 0, .int .i64 0, .int .i64 0, .int .i64 0, .str [], .int .i64 0, .int .i64 0, .int .i64 0, .int .i64 0, .int .i64 0, .str [], .nilslice, .nilslice, .int .i64 0, .int .i64 0] true 1 []) := ⟨_, rfl⟩
  have sb : Same (fun j => j < k1.next) k1 m1 := by rw [hm1, hb3]; exact Same.pushset
  have f3m1 : m1.find b3 = some (.cells 64 [.int .i64 n1, .int .i64 0, .int .i64 0, .int .i64 0, .int .i64 0, .int .i64 0, .int .i64 0, .str [], .int .i64 0, .int .i64 0, .int .i64 0, .int .i64 0, .int .i64 0, .str [], .nilslice, .nilslice, .int .i64 0, .int .i64 0] true 1 []) := by rw [hm1, hb3]; exact find_set_same find_push_new
  have f2m1 := sb.find (j := b2) (by omega) f21
  have rm1 : Rs m1 r y1 := r1.same (sb.sub fun j hj => by omega)
  have Sm1 : Same (fun j => j ≠ r) h m1 := S1.trans' (sb.sub fun j hj => by omega)
  have xm1 : m1.next = b3 + 1 := by rw [hm1, hb3]; rfl
  have bu : ∀ {t : Tm} {x : Opd}, x.ev t = .int .i64 n1 → evOp (.build frZ [(0, 1, x)]) t k1 = some (.agg [.int .i64 n1, .int .i64 0, .int .i64 0, .int .i64 0, .int .i64 0, .int .i64 0, .int .i64 0, .str [], .int .i64 0, .int .i64 0, .int .i64 0, .int .i64 0, .int .i64 0, .str [], .nilslice, .nilslice, .int .i64 0, .int .i64 0], k1) := fun hx => by simp only [evOp, evParts, hx]; rfl
  have alb : ∀ {t : Tm}, evOp (.alloc 64 frZ) t k1 = some (.ptr b3 0, k1.push (.cells 64 frZ true 1 [])) := by intro t; rw [hb3]; rfl
  have stb : ∀ {t : Tm} {a x : Opd}, a.ev t = .ptr b3 0 → x.ev t = .agg [.int .i64 n1, .int .i64 0, .int .i64 0, .int .i64 0, .int .i64 0, .int .i64 0, .int .i64 0, .str [], .int .i64 0, .int .i64 0, .int .i64 0, .int .i64 0, .int .i64 0, .str [], .nilslice, .nilslice, .int .i64 0, .int .i64 0] → evOp (.store 18 a x) t (k1.push (.cells 64 frZ true 1 [])) = some (undefA, m1) := fun ha hx => by
    rw [hm1]; exact ev_storeN (b := b3) (by rw [hb3]; exact find_push_new) ha hx rfl rfl rfl (by decide)
  (repeat (first | ((first | with_reducible apply Ev_op_of | with_reducible apply EvDn_op_of); (case hp => rfl); (case hv => first | ((with_reducible refine bu ?_) <;> exact look Bool.not_true) | ((with_reducible refine alb) <;> exact look Bool.not_true) | ((with_reducible refine stb ?_ ?_) <;> exact look Bool.not_true) | exact dfl2 Bool.not_true)) | refine adm Bool.not_true ?_))

  refine Ev_call (by exact cal Bool.not_true) (number_ok rm1 (by omega)) ?_ (by
    rintro v h1 ⟨hs1, ⟨_, _, _, ex, _⟩ | ⟨ee, ex⟩⟩
    · cases ex
    · exact ⟨rfl, Sm1.trans hs1, .inr ⟨by unfold rdFr; simp only [e1, ee, Option.bind_some, Option.bind_none], ex⟩⟩)
  rintro v k2 ⟨hs2, ⟨n2, y2, e2, ex, r2⟩ | ⟨_, ex⟩⟩
  rotate_left
  · cases ex
  cases ex
  have l2 := (rdNum_len e2).2
  have f2k2 := hs2.find (j := b2) (by omega) f2m1
  have f3k2 := hs2.find (j := b3) (by omega) f3m1
  have xk2 := hs2.next
  obtain ⟨m2, hm2⟩ : ∃ m2, m2 = k2.set b3 (.cells 64 [.int .i64 n1, .int .i64 n2, .int .i64 0, .int .i64 0, .int .i64 0, .int .i64 0, .int .i64 0, .str [], .int .i64 0, .int .i64 0, .int .i64 0, .int .i64 0, .int .i64 0, .str [], .nilslice, .nilslice, .int .i64 0, .int .i64 0] true 1 []) := ⟨_, rfl⟩
  have st2 : ∀ {t : Tm} {a x : Opd}, a.ev t = .ptr b3 1 → x.ev t = .int .i64 n2 → evOp (.store 1 a x) t k2 = some (undefA, m2) := fun ha hx => by rw [hm2]; exact ev_storeP f3k2 ha hx rfl rfl (by simp) (by omega)
  have f3m2 : m2.find b3 = some (.cells 64 [.int .i64 n1, .int .i64 n2, .int .i64 0, .int .i64 0, .int .i64 0, .int .i64 0, .int .i64 0, .str [], .int .i64 0, .int .i64 0, .int .i64 0, .int .i64 0, .int .i64 0, .str [], .nilslice, .nilslice, .int .i64 0, .int .i64 0] true 1 []) := by rw [hm2]; exact find_set_same f3k2
  have t2 : Same (fun j => j ≠ b3) k2 m2 := by rw [hm2]; exact Same.set f3k2 (fun j hj => hj)
  have f2m2 := t2.find (j := b2) (by omega) f2k2
  have rm2 : Rs m2 r y2 := r2.same (t2.sub fun j hj => by omega)
  have Sm2 : Same (fun j => j ≠ r) h m2 := (Sm1.trans hs2).trans' (t2.sub fun j hj => by omega)
  have xm2 : m2.next = k2.next := by rw [hm2]; rfl
  (repeat (first | ((first | with_reducible apply Ev_op_of | with_reducible apply EvDn_op_of); (case hp => rfl); (case hv => first | ((with_reducible refine st2 ?_ ?_) <;> exact look Bool.not_true) | exact dfl2 Bool.not_true)) | refine adm Bool.not_true ?_))
  refine Ev_call (by exact cal Bool.not_true) (rdValue_ok rm2 (by omega)) ?_ (by
    rintro v h1 ⟨hs1, ⟨_, _, _, ex, _⟩ | ⟨ee, ex⟩⟩
    · cases ex
    · exact ⟨rfl, Sm2.trans hs1, .inr ⟨by unfold rdFr; simp only [e1, e2, ee, Option.bind_some, Option.bind_none], ex⟩⟩)
  rintro v k3 ⟨hs3, ⟨n3, y3, e3, ex, r3⟩ | ⟨_, ex⟩⟩
  rotate_left
  · cases ex
  cases ex
  have l3 := (rdVal_len e3 (by omega)).2.1
  have f2k3 := hs3.find (j := b2) (by omega) f2m2
  have f3k3 := hs3.find (j := b3) (by omega) f3m2
  have xk3 := hs3.next
  obtain ⟨m3, hm3⟩ : ∃ m3, m3 = k3.set b3 (.cells 64 [.int .i64 n1, .int .i64 n2, .int .i64 n3.K, .int .i64 n3.N, .int .i64 n3.M, .int .i64 n3.VK, .int .i64 n3.VN, .str n3.T, .int .i64 0, .int .i64 0, .int .i64 0, .int .i64 0, .int .i64 0, .str [], .nilslice, .nilslice, .int .i64 0, .int .i64 0] true 1 []) := ⟨_, rfl⟩
  have st3 : ∀ {t : Tm} {a x : Opd}, a.ev t = .ptr b3 2 → x.ev t = .agg (svC n3) → evOp (.store 6 a x) t k3 = some (undefA, m3) := fun ha hx => by rw [hm3]; exact ev_storeA f3k3 ha hx rfl (by simp) rfl (by decide)
  have f3m3 : m3.find b3 = some (.cells 64 [.int .i64 n1, .int .i64 n2, .int .i64 n3.K, .int .i64 n3.N, .int .i64 n3.M, .int .i64 n3.VK, .int .i64 n3.VN, .str n3.T, .int .i64 0, .int .i64 0, .int .i64 0, .int .i64 0, .int .i64 0, .str [], .nilslice, .nilslice, .int .i64 0, .int .i64 0] true 1 []) := by rw [hm3]; exact find_set_same f3k3
  have t3 : Same (fun j => j ≠ b3) k3 m3 := by rw [hm3]; exact Same.set f3k3 (fun j hj => hj)
  have f2m3 := t3.find (j := b2) (by omega) f2k3
  have rm3 : Rs m3 r y3 := r3.same (t3.sub fun j hj => by omega)
  have Sm3 : Same (fun j => j ≠ r) h m3 := (Sm2.trans hs3).trans' (t3.sub fun j hj => by omega)
  have xm3 : m3.next = k3.next := by rw [hm3]; rfl
  (repeat (first | ((first | with_reducible apply Ev_op_of | with_reducible apply EvDn_op_of); (case hp => rfl); (case hv => first | ((with_reducible refine st3 ?_ ?_) <;> exact look Bool.not_true) | exact dfl2 Bool.not_true)) | refine adm Bool.not_true ?_))
  refine Ev_call (by exact cal Bool.not_true) (rdValue_ok rm3 (by omega)) ?_ (by
    rintro v h1 ⟨hs1, ⟨_, _, _, ex, _⟩ | ⟨ee, ex⟩⟩
    · cases ex
    · exact ⟨rfl, Sm3.trans hs1, .inr ⟨by unfold rdFr; simp only [e1, e2, e3, ee, Option.bind_some, Option.bind_none], ex⟩⟩)
  rintro v k4 ⟨hs4, ⟨n4, y4, e4, ex, r4⟩ | ⟨_, ex⟩⟩
  rotate_left
  · cases ex
  cases ex
  have l4 := (rdVal_len e4 (by omega)).2.1
  have f2k4 := hs4.find (j := b2) (by omega) f2m3
  have f3k4 := hs4.find (j := b3) (by omega) f3m3
  have xk4 := hs4.next
  obtain ⟨m4, hm4⟩ : ∃ m4, m4 = k4.set b3 (.cells 64 [.int .i64 n1, .int .i64 n2, .int .i64 n3.K, .int .i64 n3.N, .int .i64 n3.M, .int .i64 n3.VK, .int .i64 n3.VN, .str n3.T, .int .i64 n4.K, .int .i64 n4.N, .int .i64 n4.M, .int .i64 n4.VK, .int .i64 n4.VN, .str n4.T, .nilslice, .nilslice, .int .i64 0, .int .i64 0] true 1 []) := ⟨_, rfl⟩
  have st4 : ∀ {t : Tm} {a x : Opd}, a.ev t = .ptr b3 8 → x.ev t = .agg (svC n4) → evOp (.store 6 a x) t k4 = some (undefA, m4) := fun ha hx => by rw [hm4]; exact ev_storeA f3k4 ha hx rfl (by simp) rfl (by decide)
  have f3m4 : m4.find b3 = some (.cells 64 [.int .i64 n1, .int .i64 n2, .int .i64 n3.K, .int .i64 n3.N, .int .i64 n3.M, .int .i64 n3.VK, .int .i64 n3.VN, .str n3.T, .int .i64 n4.K, .int .i64 n4.N, .int .i64 n4.M, .int .i64 n4.VK, .int .i64 n4.VN, .str n4.T, .nilslice, .nilslice, .int .i64 0, .int .i64 0] true 1 []) := by rw [hm4]; exact find_set_same f3k4
  have t4 : Same (fun j => j ≠ b3) k4 m4 := by rw [hm4]; exact Same.set f3k4 (fun j hj => hj)
  have f2m4 := t4.find (j := b2) (by omega) f2k4
  have rm4 : Rs m4 r y4 := r4.same (t4.sub fun j hj => by omega)
  have Sm4 : Same (fun j => j ≠ r) h m4 := (Sm3.trans hs4).trans' (t4.sub fun j hj => by omega)
  have xm4 : m4.next = k4.next := by rw [hm4]; rfl
  (repeat (first | ((first | with_reducible apply Ev_op_of | with_reducible apply EvDn_op_of); (case hp => rfl); (case hv => first | ((with_reducible refine st4 ?_ ?_) <;> exact look Bool.not_true) | exact dfl2 Bool.not_true)) | refine adm Bool.not_true ?_))
  refine Ev_call (by exact cal Bool.not_true) (values_ok rm4 (by omega)) ?_ (by
    rintro v h1 ⟨hs1, ⟨_, _, _, _, ex, _⟩ | ⟨ee, ex⟩⟩
    · cases ex
    · exact ⟨rfl, Sm4.trans hs1, .inr ⟨by unfold rdFr; simp only [e1, e2, e3, e4, ee, Option.bind_some, Option.bind_none], ex⟩⟩)
  rintro w5 k5 ⟨hs5, ⟨n5, y5, _, e5, ex, ⟨V5, P5⟩, r5⟩ | ⟨_, ex⟩⟩
  rotate_left
  · cases ex
  cases ex
  have l5 := (rdVals_len e5 (by omega)).2.1
  have f2k5 := hs5.find (j := b2) (by omega) f2m4
  have f3k5 := hs5.find (j := b3) (by omega) f3m4
  have xk5 := hs5.next
  obtain ⟨m5, hm5⟩ : ∃ m5, m5 = k5.set b3 (.cells 64 [.int .i64 n1, .int .i64 n2, .int .i64 n3.K, .int .i64 n3.N, .int .i64 n3.M, .int .i64 n3.VK, .int .i64 n3.VN, .str n3.T, .int .i64 n4.K, .int .i64 n4.N, .int .i64 n4.M, .int .i64 n4.VK, .int .i64 n4.VN, .str n4.T, w5, .nilslice, .int .i64 0, .int .i64 0] true 1 []) := ⟨_, rfl⟩
  have c5 := cell_of_rd (Sl.rd V5)
  have st5 : ∀ {t : Tm} {a x : Opd}, a.ev t = .ptr b3 14 → x.ev t = w5 → evOp (.store 1 a x) t k5 = some (undefA, m5) := fun ha hx => by rw [hm5]; exact ev_storeP f3k5 ha hx (isCell_cells c5) c5 (by simp) (by omega)
  have f3m5 : m5.find b3 = some (.cells 64 [.int .i64 n1, .int .i64 n2, .int .i64 n3.K, .int .i64 n3.N, .int .i64 n3.M, .int .i64 n3.VK, .int .i64 n3.VN, .str n3.T, .int .i64 n4.K, .int .i64 n4.N, .int .i64 n4.M, .int .i64 n4.VK, .int .i64 n4.VN, .str n4.T, w5, .nilslice, .int .i64 0, .int .i64 0] true 1 []) := by rw [hm5]; exact find_set_same f3k5
  have t5 : Same (fun j => j ≠ b3) k5 m5 := by rw [hm5]; exact Same.set f3k5 (fun j hj => hj)
  have f2m5 := t5.find (j := b2) (by omega) f2k5
  have rm5 : Rs m5 r y5 := r5.same (t5.sub fun j hj => by omega)
  have Sm5 : Same (fun j => j ≠ r) h m5 := (Sm4.trans hs5).trans' (t5.sub fun j hj => by omega)
  have xm5 : m5.next = k5.next := by rw [hm5]; rfl
  have V5_5 := V5.keep (t5.sub fun j hj => by omega).keep
  (repeat (first | ((first | with_reducible apply Ev_op_of | with_reducible apply EvDn_op_of); (case hp => rfl); (case hv => first | ((with_reducible refine st5 ?_ ?_) <;> exact look Bool.not_true) | exact dfl2 Bool.not_true)) | refine adm Bool.not_true ?_))
  refine Ev_call (by exact cal Bool.not_true) (values_ok rm5 (by omega)) ?_ (by
    rintro v h1 ⟨hs1, ⟨_, _, _, _, ex, _⟩ | ⟨ee, ex⟩⟩
    · cases ex
    · exact ⟨rfl, Sm5.trans hs1, .inr ⟨by unfold rdFr; simp only [e1, e2, e3, e4, e5, ee, Option.bind_some, Option.bind_none], ex⟩⟩)
  rintro w6 k6 ⟨hs6, ⟨n6, y6, _, e6, ex, ⟨V6, P6⟩, r6⟩ | ⟨_, ex⟩⟩
  rotate_left
  · cases ex
  cases ex
  have l6 := (rdVals_len e6 (by omega)).2.1
  have f2k6 := hs6.find (j := b2) (by omega) f2m5
  have f3k6 := hs6.find (j := b3) (by omega) f3m5
  have xk6 := hs6.next
  obtain ⟨m6, hm6⟩ : ∃ m6, m6 = k6.set b3 (.cells 64 [.int .i64 n1, .int .i64 n2, .int .i64 n3.K, .int .i64 n3.N, .int .i64 n3.M, .int .i64 n3.VK, .int .i64 n3.VN, .str n3.T, .int .i64 n4.K, .int .i64 n4.N, .int .i64 n4.M, .int .i64 n4.VK, .int .i64 n4.VN, .str n4.T, w5, w6, .int .i64 0, .int .i64 0] true 1 []) := ⟨_, rfl⟩
  have c6 := cell_of_rd (Sl.rd V6)
  have st6 : ∀ {t : Tm} {a x : Opd}, a.ev t = .ptr b3 15 → x.ev t = w6 → evOp (.store 1 a x) t k6 = some (undefA, m6) := fun ha hx => by rw [hm6]; exact ev_storeP f3k6 ha hx (isCell_cells c6) c6 (by simp) (by omega)
  have f3m6 : m6.find b3 = some (.cells 64 [.int .i64 n1, .int .i64 n2, .int .i64 n3.K, .int .i64 n3.N, .int .i64 n3.M, .int .i64 n3.VK, .int .i64 n3.VN, .str n3.T, .int .i64 n4.K, .int .i64 n4.N, .int .i64 n4.M, .int .i64 n4.VK, .int .i64 n4.VN, .str n4.T, w5, w6, .int .i64 0, .int .i64 0] true 1 []) := by rw [hm6]; exact find_set_same f3k6
  have t6 : Same (fun j => j ≠ b3) k6 m6 := by rw [hm6]; exact Same.set f3k6 (fun j hj => hj)
  have f2m6 := t6.find (j := b2) (by omega) f2k6
  have rm6 : Rs m6 r y6 := r6.same (t6.sub fun j hj => by omega)
  have Sm6 : Same (fun j => j ≠ r) h m6 := (Sm5.trans hs6).trans' (t6.sub fun j hj => by omega)
  have xm6 : m6.next = k6.next := by rw [hm6]; rfl
  have V5_6 := (V5_5.keep (hs6.sub fun j hj => by omega).keep).keep (t6.sub fun j hj => by omega).keep
  have V6_6 := V6.keep (t6.sub fun j hj => by omega).keep
  (repeat (first | ((first | with_reducible apply Ev_op_of | with_reducible apply EvDn_op_of); (case hp => rfl); (case hv => first | ((with_reducible refine st6 ?_ ?_) <;> exact look Bool.not_true) | exact dfl2 Bool.not_true)) | refine adm Bool.not_true ?_))
  refine Ev_call (by exact cal Bool.not_true) (number_ok rm6 (by omega)) ?_ (by
    rintro v h1 ⟨hs1, ⟨_, _, _, ex, _⟩ | ⟨ee, ex⟩⟩
    · cases ex
    · exact ⟨rfl, Sm6.trans hs1, .inr ⟨by unfold rdFr; simp only [e1, e2, e3, e4, e5, e6, ee, Option.bind_some, Option.bind_none], ex⟩⟩)
  rintro v k7 ⟨hs7, ⟨n7, y7, e7, ex, r7⟩ | ⟨_, ex⟩⟩
  rotate_left
  · cases ex
  cases ex
  have l7 := (rdNum_len e7).2
  have f2k7 := hs7.find (j := b2) (by omega) f2m6
  have f3k7 := hs7.find (j := b3) (by omega) f3m6
  have xk7 := hs7.next
  obtain ⟨m7, hm7⟩ : ∃ m7, m7 = k7.set b3 (.cells 64 [.int .i64 n1, .int .i64 n2, .int .i64 n3.K, .int .i64 n3.N, .int .i64 n3.M, .int .i64 n3.VK, .int .i64 n3.VN, .str n3.T, .int .i64 n4.K, .int .i64 n4.N, .int .i64 n4.M, .int .i64 n4.VK, .int .i64 n4.VN, .str n4.T, w5, w6, .int .i64 n7, .int .i64 0] true 1 []) := ⟨_, rfl⟩
  have st7 : ∀ {t : Tm} {a x : Opd}, a.ev t = .ptr b3 16 → x.ev t = .int .i64 n7 → evOp (.store 1 a x) t k7 = some (undefA, m7) := fun ha hx => by rw [hm7]; exact ev_storeP f3k7 ha hx rfl rfl (by simp) (by omega)
  have f3m7 : m7.find b3 = some (.cells 64 [.int .i64 n1, .int .i64 n2, .int .i64 n3.K, .int .i64 n3.N, .int .i64 n3.M, .int .i64 n3.VK, .int .i64 n3.VN, .str n3.T, .int .i64 n4.K, .int .i64 n4.N, .int .i64 n4.M, .int .i64 n4.VK, .int .i64 n4.VN, .str n4.T, w5, w6, .int .i64 n7, .int .i64 0] true 1 []) := by rw [hm7]; exact find_set_same f3k7
  have t7 : Same (fun j => j ≠ b3) k7 m7 := by rw [hm7]; exact Same.set f3k7 (fun j hj => hj)
  have f2m7 := t7.find (j := b2) (by omega) f2k7
  have rm7 : Rs m7 r y7 := r7.same (t7.sub fun j hj => by omega)
  have Sm7 : Same (fun j => j ≠ r) h m7 := (Sm6.trans hs7).trans' (t7.sub fun j hj => by omega)
  have xm7 : m7.next = k7.next := by rw [hm7]; rfl
  have V5_7 := (V5_6.keep (hs7.sub fun j hj => by omega).keep).keep (t7.sub fun j hj => by omega).keep
  have V6_7 := (V6_6.keep (hs7.sub fun j hj => by omega).keep).keep (t7.sub fun j hj => by omega).keep
  (repeat (first | ((first | with_reducible apply Ev_op_of | with_reducible apply EvDn_op_of); (case hp => rfl); (case hv => first | ((with_reducible refine st7 ?_ ?_) <;> exact look Bool.not_true) | exact dfl2 Bool.not_true)) | refine adm Bool.not_true ?_))
  refine Ev_call (by exact cal Bool.not_true) (number_ok rm7 (by omega)) ?_ (by
    rintro v h1 ⟨hs1, ⟨_, _, _, ex, _⟩ | ⟨ee, ex⟩⟩
    · cases ex
    · exact ⟨rfl, Sm7.trans hs1, .inr ⟨by unfold rdFr; simp only [e1, e2, e3, e4, e5, e6, e7, ee, Option.bind_some, Option.bind_none], ex⟩⟩)
  rintro v k8 ⟨hs8, ⟨n8, y8, e8, ex, r8⟩ | ⟨_, ex⟩⟩
  rotate_left
  · cases ex
  cases ex
  have l8 := (rdNum_len e8).2
  have f2k8 := hs8.find (j := b2) (by omega) f2m7
  have f3k8 := hs8.find (j := b3) (by omega) f3m7
  have xk8 := hs8.next
  obtain ⟨m8, hm8⟩ : ∃ m8, m8 = k8.set b3 (.cells 64 [.int .i64 n1, .int .i64 n2, .int .i64 n3.K, .int .i64 n3.N, .int .i64 n3.M, .int .i64 n3.VK, .int .i64 n3.VN, .str n3.T, .int .i64 n4.K, .int .i64 n4.N, .int .i64 n4.M, .int .i64 n4.VK, .int .i64 n4.VN, .str n4.T, w5, w6, .int .i64 n7, .int .i64 n8] true 1 []) := ⟨_, rfl⟩
  have st8 : ∀ {t : Tm} {a x : Opd}, a.ev t = .ptr b3 17 → x.ev t = .int .i64 n8 → evOp (.store 1 a x) t k8 = some (undefA, m8) := fun ha hx => by rw [hm8]; exact ev_storeP f3k8 ha hx rfl rfl (by simp) (by omega)
  have f3m8 : m8.find b3 = some (.cells 64 [.int .i64 n1, .int .i64 n2, .int .i64 n3.K, .int .i64 n3.N, .int .i64 n3.M, .int .i64 n3.VK, .int .i64 n3.VN, .str n3.T, .int .i64 n4.K, .int .i64 n4.N, .int .i64 n4.M, .int .i64 n4.VK, .int .i64 n4.VN, .str n4.T, w5, w6, .int .i64 n7, .int .i64 n8] true 1 []) := by rw [hm8]; exact find_set_same f3k8
  have t8 : Same (fun j => j ≠ b3) k8 m8 := by rw [hm8]; exact Same.set f3k8 (fun j hj => hj)
  have f2m8 := t8.find (j := b2) (by omega) f2k8
  have rm8 : Rs m8 r y8 := r8.same (t8.sub fun j hj => by omega)
  have Sm8 : Same (fun j => j ≠ r) h m8 := (Sm7.trans hs8).trans' (t8.sub fun j hj => by omega)
  have xm8 : m8.next = k8.next := by rw [hm8]; rfl
  have V5_8 := (V5_7.keep (hs8.sub fun j hj => by omega).keep).keep (t8.sub fun j hj => by omega).keep
  have V6_8 := (V6_7.keep (hs8.sub fun j hj => by omega).keep).keep (t8.sub fun j hj => by omega).keep
  (repeat (first | ((first | with_reducible apply Ev_op_of | with_reducible apply EvDn_op_of); (case hp => rfl); (case hv => first | ((with_reducible refine st8 ?_ ?_) <;> exact look Bool.not_true) | exact dfl2 Bool.not_true)) | refine adm Bool.not_true ?_))
  obtain ⟨p, hp⟩ : ∃ p : FP, p = (⟨n1, n2, n3, n4, n5, n6, n7, n8⟩, w5, w6) := ⟨_, rfl⟩
  have f3p : m8.find b3 = some (.cells 64 (frC p) true 1 []) := by rw [hp]; exact f3m8
  have op : FrOK m8 (fun j => m4.next ≤ j) p := by rw [hp]; exact ⟨V5_8, V6_8.sub fun j hj _ => by omega⟩
  obtain ⟨k9, hk9⟩ : ∃ k9, k9 = m8.set b2 (.cells 64 (frC p) true 1 []) := ⟨_, rfl⟩
  have ld9 : ∀ {t : Tm} {x : Opd}, x.ev t = .ptr b3 0 → evOp (.load true 18 x) t m8 = some (.agg (frC p), m8) := fun hx => ev_loadA f3p (by rw [frC_len]; omega) rfl hx
  have st9 : ∀ {t : Tm} {a x : Opd}, a.ev t = .ptr b2 0 → x.ev t = .agg (frC p) → evOp (.store 18 a x) t m8 = some (undefA, k9) := fun ha hx => by rw [hk9]; exact ev_storeN f2m8 ha hx (frC_len p) rfl (frC_cells op) (by decide)
  have f29 : k9.find b2 = some (.cells 64 (frC p) true 1 []) := by rw [hk9]; exact find_set_same f2m8
  have s9 : Same (fun j => j ≠ b2) m8 k9 := by rw [hk9]; exact Same.set f2m8 (fun j hj => hj)
  (repeat (first | ((first | with_reducible apply Ev_op_of | with_reducible apply EvDn_op_of); (case hp => rfl); (case hv => first | ((with_reducible refine ld9 ?_) <;> exact look Bool.not_true) | ((with_reducible refine st9 ?_ ?_) <;> exact look Bool.not_true) | exact dfl2 Bool.not_true)) | refine adm Bool.not_true ?_))
  refine ⟨rfl, _, res_cell (by exact look Bool.not_true) f29 (frC_len p), ?_⟩
  refine ⟨Sm8.trans' (s9.sub fun j hj => by omega), .inl ⟨p, y8, ?_, rfl, ⟨?_, by rw [hp]; exact P6⟩, rm8.same (s9.sub fun j hj => by omega)⟩⟩
  · unfold rdFr
    simp only [e1, e2, e3, e4, e5, e6, e7, e8, Option.bind_some, hp]
  · exact (op.keep (s9.sub fun j hj => by omega).keep).sub fun j hj _ => by omega
end
end Go.AM
