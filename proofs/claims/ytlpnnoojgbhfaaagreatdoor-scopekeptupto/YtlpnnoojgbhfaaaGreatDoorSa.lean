/- BUFFERS OF BYTES, where the capacity is known. -/
import Derived.Test.YtlpnnoojgbhfaaaGreatDoorGo
import Derived.Test.YtlpnnoojgbhfaaaGreatDoorMc
import Derived.Test.YtlpnnoojgbhfaaaGreatDoorP
import Derived.Test.YtlpnnoojgbhfaaaGreatDoorK
set_option linter.all false
namespace Go.AM
set_option maxRecDepth 10000
set_option linter.unusedSimpArgs false

/-- a buffer whose capacity is known -/
structure BK (h : Heap) (c b n k tw fz : Nat) (cs : List AV) (lr : AV) : Prop where
  field : h.find c = some (.cells tw [.slice b 0 n (some k) 1, .int .i64 0, lr] true fz [])
  blk : h.find b = some (.cells 5 cs true 1 [])
  ne : c ≠ b
  le : n ≤ k
  kc : k ≤ cs.length
  kmax : k < 9223372036854775808
  kpos : 0 < k
  fz1 : fz ≤ 1

variable {h : Heap} {c b n k tw fz l : Nat} {cs : List AV} {lr : AV}

def fieldO (tw b n k fz : Nat) (lr : AV) : AObj := .cells tw [.slice b 0 n (some k) 1, .int .i64 0, lr] true fz []

theorem BK.ld (hb : BK h c b n k tw fz cs lr) {t : Tm} {x : Opd} (hx : x.ev t = .ptr c 0) : evOp (.load false 1 x) t h = some (.slice b 0 n (some k) 1, h) := ev_loadP hb.field rfl hx
theorem BK.ld1 (hb : BK h c b n k tw fz cs lr) {t : Tm} {x : Opd} (hx : x.ev t = .ptr c 1) : evOp (.load false 1 x) t h = some (.int .i64 0, h) := ev_loadP hb.field rfl hx
theorem BK.st (hb : BK h c b n k tw fz cs lr) {t : Tm} {a x : Opd} {b' n' : Nat} {k' : Option Nat} (ha : a.ev t = .ptr c 0) (hx : x.ev t = .slice b' 0 n' k' 1) :
    evOp (.store 1 a x) t h = some (undefA, h.set c (.cells tw [.slice b' 0 n' k' 1, .int .i64 0, lr] true fz [])) := ev_storeP hb.field ha hx rfl rfl (by simp) (by have := hb.fz1; omega)
theorem BK.st2 (hb : BK h c b n k tw fz cs lr) {t : Tm} {a x : Opd} (ha : a.ev t = .ptr c 2) (hx : x.ev t = .int .i8 0) :
    evOp (.store 1 a x) t h = some (undefA, h.set c (fieldO tw b n k fz (.int .i8 0))) := ev_storeP hb.field ha hx rfl rfl (by simp) (by have := hb.fz1; omega)

theorem BK.set (hb : BK h c b n k tw fz cs lr) {n' : Nat} {lr' : AV} (hn : n' ≤ k) : BK (h.set c (fieldO tw b n' k fz lr')) c b n' k tw fz cs lr' :=
  ⟨find_set_same hb.field, by rw [find_set_ne hb.field hb.ne]; exact hb.blk, hb.ne, hn, hb.kc, hb.kmax, hb.kpos, hb.fz1⟩

theorem tryGrow_ok (hb : BK h c b n k tw fz cs lr) (hl : l < 67108864) : CallA progT (.fn 87) [.ptr c 0, .int .i64 l] h fun r h' =>
    (n + l ≤ k ∧ r = .ret (.tuple [.int .i64 n, .bool true]) ∧ h' = h.set c (fieldO tw b (n + l) k fz lr)) ∨ (k < n + l ∧ r = .ret (.tuple [.int .i64 0, .bool false]) ∧ h' = h) := by
  refine CallA_body (by rfl) ?_
  have hf := hb.field
  have h1 := hb.le
  have h2 := hb.kmax
  have hw : wrapA .i64 ((k : Int) - (n : Int)) = (k : Int) - (n : Int) := wrap_i64 (by omega) (by omega)
  by_cases hd : n + l ≤ k
  · have hw2 : wrapA .i64 ((n : Int) + (l : Int)) = ((n + l : Nat) : Int) := by rw [wrap_i64 (by omega) (by omega)]; omega
    have hd1 : decide ((l : Int) ≤ (k : Int) - (n : Int)) = true := by simp; omega
    (repeat (first | ((first | with_reducible apply Ev_op_of | with_reducible apply EvDn_op_of); (case hp => rfl); (case hv => first | ((with_reducible refine hb.ld ?_) <;> exact look (an hw (an hd1 hw2))) | ((with_reducible refine ev_sliceHi (b := b) (o := 0) (n := n) (kk := .i64) (m := n + l) ?_ ?_ hd hb.kpos) <;> exact look (an hw (an hd1 hw2))) | ((with_reducible refine hb.st (b' := b) (n' := n + l) (k' := some k) ?_ ?_) <;> exact look (an hw (an hd1 hw2))) | exact dfl2 (an hw (an hd1 hw2)))) | refine adm (an hw (an hd1 hw2)) ?_))
    (refine ⟨rfl, _, by exact ret Bool.not_true, ?_⟩)
    exact .inl ⟨hd, rfl, rfl⟩
  · have hd1 : decide ((l : Int) ≤ (k : Int) - (n : Int)) = false := by simp; omega
    (repeat (first | ((first | with_reducible apply Ev_op_of | with_reducible apply EvDn_op_of); (case hp => rfl); (case hv => first | ((with_reducible refine hb.ld ?_) <;> exact look (an hw hd1)) | exact dfl2 (an hw hd1))) | refine adm (an hw hd1) ?_))
    (refine ⟨rfl, _, by exact ret Bool.not_true, ?_⟩)
    exact .inr ⟨by omega, rfl, rfl⟩

theorem growDefer (rc : Rec) (n : Nat) (h : Heap) : evDeferred progT rc n 181 [] .ret h = some (.ret (.tuple []), .ret, h) := by
  rfl

/-- the bytes of a buffer -/
def zerosA (m : Nat) : List AV := List.replicate m (.int .u8 0)
def newCap (n l k : Nat) : Nat := if n + l < 2 * k then 2 * k else n + l

theorem growSlice_ok {bs : List UInt8} (hf : h.find b = some (.cells 5 cs true 1 [])) (hbs : cs.take n = bs.map byteA) (hn : n ≤ k) (hk : k ≤ cs.length) (hkm : k < 33554432) (hl : n + l ≤ 33554432) (h0 : 0 < n) (hz : 0 < l) :
    CallA progT (.fn 115) [.slice b 0 n (some k) 1, .int .i64 l] h fun r h' => r = .ret (.slice h.next 0 n none 1) ∧
      h' = (h.push (.cells 5 (zerosA (newCap n l k)) true 1 [])).set h.next (.cells 5 (bs.map byteA ++ zerosA (newCap n l k - n)) true 1 []) := by
  refine CallA_leave (by rfl) ?_
  have hw1 : wrapA .i64 ((n : Int) + (l : Int)) = ((n + l : Nat) : Int) := by rw [wrap_i64 (by omega) (by omega)]; omega
  have hw2 : wrapA .i64 (2 * (k : Int)) = ((2 * k : Nat) : Int) := by rw [wrap_i64 (by omega) (by omega)]; omega
  have hlen : bs.length = n := by have := congrArg List.length hbs; rw [List.length_take, List.length_map] at this; omega
  have hmax : newCap n l k ≤ 67108864 ∧ n ≤ newCap n l k := by unfold newCap; split <;> omega
  have hblk := hf
  have hsrc : sourceA (h.push (.cells 5 (List.replicate (newCap n l k) (.int .u8 0)) true 1 [])) 1 (.slice b 0 n (some k) 1) n = some (bs.map byteA) := by
    simp only [sourceA, if_true]
    rw [if_neg (by omega)]
    simp only [readAt, find_push_old hf]
    rw [cut_eq (by omega), List.drop_zero, Nat.mul_one, hbs]
  have hf2 : ((h.push (.cells 5 (List.replicate (newCap n l k) (.int .u8 0)) true 1 [])).set h.next (.cells 5 (List.take 0 (List.replicate (newCap n l k) (AV.int .u8 0)) ++ bs.map byteA ++ List.drop n (List.replicate (newCap n l k) (AV.int .u8 0))) true 1 [])).find h.next = _ := find_set_same find_push_new
  have hl2 : (List.take 0 (List.replicate (newCap n l k) (AV.int .u8 0)) ++ bs.map byteA ++ List.drop n (List.replicate (newCap n l k) (AV.int .u8 0))).length = newCap n l k := by simp [hlen]; omega
  have hbl : (bs.map byteA).length = n := by simp [hlen]
  have hc0 : 0 < newCap n l k := by omega
  have hfit : 0 + n ≤ (List.replicate (newCap n l k) (AV.int .u8 0)).length := by simp; omega
  have hmx : n ≤ max (newCap n l k) ((List.take 0 (List.replicate (newCap n l k) (AV.int .u8 0)) ++ bs.map byteA ++ List.drop n (List.replicate (newCap n l k) (AV.int .u8 0))).length - 0) := by rw [hl2]; omega
  have hpos : 0 < max (newCap n l k) ((List.take 0 (List.replicate (newCap n l k) (AV.int .u8 0)) ++ bs.map byteA ++ List.drop n (List.replicate (newCap n l k) (AV.int .u8 0))).length - 0) := by rw [hl2]; omega
  have fin : ∀ (r : ARes) (h' : Heap), r = .ret (.slice h.next 0 n none 1) → h' = ((h.push (.cells 5 (List.replicate (newCap n l k) (.int .u8 0)) true 1 [])).set h.next (.cells 5 (List.take 0 (List.replicate (newCap n l k) (AV.int .u8 0)) ++ bs.map byteA ++ List.drop n (List.replicate (newCap n l k) (AV.int .u8 0))) true 1 [])) →
      r = .ret (.slice h.next 0 n none 1) ∧ h' = (h.push (.cells 5 (zerosA (newCap n l k)) true 1 [])).set h.next (.cells 5 (bs.map byteA ++ zerosA (newCap n l k - n)) true 1 []) := by
    rintro r h' rfl rfl
    refine ⟨rfl, ?_⟩
    simp only [zerosA, List.take_zero, List.nil_append, List.drop_replicate, Nat.zero_add]
  by_cases hd : n + l < 2 * k
  · have hdec : decide (((n + l : Nat) : Int) < ((2 * k : Nat) : Int)) = true := by simp; omega
    have hcc : newCap n l k = 2 * k := by unfold newCap; rw [if_pos hd]
    rw [← hcc] at hw2 hdec
    (repeat (first | ((first | with_reducible apply Ev_op_of | with_reducible apply EvDn_op_of); (case hp => rfl); (case hv => first | ((with_reducible refine ev_zeros (m := newCap n l k) ?_ ?_ hc0 hmax.1) <;> exact look (an hw1 (an hw2 hdec))) | ((with_reducible refine ev_copyB (b := h.next) (o := 0) (n := newCap n l k) (cap := none) (v := .slice b 0 n (some k) 1) ?_ ?_ rfl hmax.2 hsrc hbl find_push_new (by decide) (allCells_bytes bs) hfit h0) <;> exact look (an hw1 (an hw2 hdec))) | ((with_reducible refine ev_sliceNone (b := h.next) (o := 0) (n := newCap n l k) (m := n) (kk := .i64) ?_ ?_ hf2 hmx hpos) <;> exact look (an hw1 (an hw2 hdec))) | exact dfl2 (an hw1 (an hw2 hdec)))) | refine adm (an hw1 (an hw2 hdec)) ?_))
    refine Leaves_one (v := .tuple []) (vs := [.slice h.next 0 n none 1]) (fun rc n => growDefer rc n _) ?_ ?_
    · simp (decide := true) only [resultsA, resultA, Opd.ev, putD, getT_setT, if_true, if_false, reduceIte]
    · exact fin _ _ rfl rfl
  · have hdec : decide (((n + l : Nat) : Int) < ((2 * k : Nat) : Int)) = false := by simp; omega
    have hcc : newCap n l k = n + l := by unfold newCap; rw [if_neg hd]
    rw [← hcc] at hw1 hdec
    (repeat (first | ((first | with_reducible apply Ev_op_of | with_reducible apply EvDn_op_of); (case hp => rfl); (case hv => first | ((with_reducible refine ev_zeros (m := newCap n l k) ?_ ?_ hc0 hmax.1) <;> exact look (an hw1 (an hw2 hdec))) | ((with_reducible refine ev_copyB (b := h.next) (o := 0) (n := newCap n l k) (cap := none) (v := .slice b 0 n (some k) 1) ?_ ?_ rfl hmax.2 hsrc hbl find_push_new (by decide) (allCells_bytes bs) hfit h0) <;> exact look (an hw1 (an hw2 hdec))) | ((with_reducible refine ev_sliceNone (b := h.next) (o := 0) (n := newCap n l k) (m := n) (kk := .i64) ?_ ?_ hf2 hmx hpos) <;> exact look (an hw1 (an hw2 hdec))) | exact dfl2 (an hw1 (an hw2 hdec)))) | refine adm (an hw1 (an hw2 hdec)) ?_))
    refine Leaves_one (v := .tuple []) (vs := [.slice h.next 0 n none 1]) (fun rc n => growDefer rc n _) ?_ ?_
    · simp (decide := true) only [resultsA, resultA, Opd.ev, putD, getT_setT, if_true, if_false, reduceIte]
    · exact fin _ _ rfl rfl

theorem len_ok (hb : BK h c b n k tw fz cs lr) : CallA progT (.fn 20) [.ptr c 0] h fun r h' => r = .ret (.int .i64 n) ∧ h' = h := by
  refine CallA_body (by rfl) ?_
  have h2 := hb.kmax
  have h1 := hb.le
  have hw : wrapA .i64 ((n : Int) - 0) = (n : Int) := by rw [wrap_i64 (by omega) (by omega)]; omega
  (repeat (first | ((first | with_reducible apply Ev_op_of | with_reducible apply EvDn_op_of); (case hp => rfl); (case hv => first | ((with_reducible refine hb.ld ?_) <;> exact look hw) | ((with_reducible refine hb.ld1 ?_) <;> exact look hw) | exact dfl2 hw)) | refine adm hw ?_))
  (refine ⟨rfl, _, by exact ret Bool.not_true, ?_⟩)
  exact ⟨rfl, rfl⟩

/-- what a grown buffer's memory holds -/
structure Grown (h h' : Heap) (c tw fz n k l : Nat) (lr : AV) (bs : List UInt8) : Prop where
  next : h'.next = h.next + 1
  field : h'.find c = some (.cells tw [.slice h.next 0 (n + l) none 1, .int .i64 0, lr] true fz [])
  blk : h'.find h.next = some (.cells 5 (bs.map byteA ++ zerosA (newCap n l k - n)) true 1 [])
  rest : ∀ j, j ≠ c → j ≠ h.next → h'.get j = h.get j

theorem grow_ok {bs : List UInt8} (hb : BK h c b n k tw fz cs lr) (hbs : cs.take n = bs.map byteA) (hkm : k < 33554432) (hl : n + l ≤ 33554432) (h0 : 0 < n) (hbig : k < n + l) :
    CallA progT (.fn 88) [.ptr c 0, .int .i64 l] h fun r h' => r = .ret (.int .i64 n) ∧ Grown h h' c tw fz n k l lr bs := by
  refine CallA_body (by rfl) ?_
  have h1 := hb.le
  have h2 := hb.kpos
  have hlen : bs.length = n := by have := congrArg List.length hbs; have := hb.kc; rw [List.length_take, List.length_map] at *; omega
  have e1 : decide ((n : Int) = 0) = false := by simp; omega
  have e1b : ((n : Int) == 0) = false := by simp; omega
  have e2 : wrapA .i64 (Int.tdiv (k : Int) 2) = ((k / 2 : Nat) : Int) := by
    have : Int.tdiv (k : Int) 2 = ((k / 2 : Nat) : Int) := by rw [Int.tdiv_eq_ediv_of_nonneg (by omega)]; omega
    rw [this, wrap_i64 (by omega) (by omega)]
  have e2b : wrapA .i64 (((k / 2 : Nat) : Int) - (n : Int)) = ((k / 2 : Nat) : Int) - (n : Int) := wrap_i64 (by omega) (by omega)
  (repeat (first | ((first | with_reducible apply Ev_op_of | with_reducible apply EvDn_op_of); (case hp => rfl); (case hv => exact dfl2 Bool.not_true)) | refine adm Bool.not_true ?_))
  refine Ev_call (by rfl) (len_ok hb) ?_ (by rintro v h' ⟨e, _⟩; cases e)
  rintro v h' ⟨e, e4⟩
  have e5 := e4.symm
  subst e5
  cases e
  (repeat (first | ((first | with_reducible apply Ev_op_of | with_reducible apply EvDn_op_of); (case hp => rfl); (case hv => exact dfl2 (an e1 e1b))) | refine adm (an e1 e1b) ?_))
  refine Ev_call (by rfl) (tryGrow_ok hb (by omega)) ?_ (by rintro v h' (⟨_, e, _⟩ | ⟨_, e, _⟩) <;> cases e)
  rintro v h' (⟨e6, _⟩ | ⟨_, e, e4⟩)
  · omega
  have e5 := e4.symm
  subst e5
  cases e
  have e3 : decide ((l : Int) ≤ ((k / 2 : Nat) : Int) - (n : Int)) = false := by simp; omega
  have e6 : wrapA .i64 (9223372036854775807 - (k : Int)) = 9223372036854775807 - (k : Int) := wrap_i64 (by omega) (by omega)
  have e7 : wrapA .i64 (9223372036854775807 - (k : Int) - (l : Int)) = 9223372036854775807 - (k : Int) - (l : Int) := wrap_i64 (by omega) (by omega)
  have e8 : decide ((k : Int) > 9223372036854775807 - (k : Int) - (l : Int)) = false := by simp; omega
  have e8b : decide (9223372036854775807 - (k : Int) - (l : Int) < (k : Int)) = false := by simp; omega
  have e9 : wrapA .i64 (0 + (l : Int)) = (l : Int) := by rw [Int.zero_add]; exact wrap_i64 (by omega) (by omega)
  have hlo : n ≤ k := h1
  (repeat (first | ((first | with_reducible apply Ev_op_of | with_reducible apply EvDn_op_of); (case hp => rfl); (case hv => first | ((with_reducible refine hb.ld ?_) <;> exact look (an e1 (an e1b (an e2 (an e2b (an e3 (an e6 (an e7 (an e8 (an e8b e9)))))))))) | ((with_reducible refine hb.ld1 ?_) <;> exact look (an e1 (an e1b (an e2 (an e2b (an e3 (an e6 (an e7 (an e8 (an e8b e9)))))))))) | ((with_reducible refine ev_sliceLo0 (b := b) (o := 0) (n := n) (k := k) (kk := .i64) ?_ ?_ h2 h1) <;> exact look (an e1 (an e1b (an e2 (an e2b (an e3 (an e6 (an e7 (an e8 (an e8b e9)))))))))) | exact dfl2 (an e1 (an e1b (an e2 (an e2b (an e3 (an e6 (an e7 (an e8 (an e8b e9))))))))))) | refine adm (an e1 (an e1b (an e2 (an e2b (an e3 (an e6 (an e7 (an e8 (an e8b e9))))))))) ?_))
  refine EvDn_call (P := fun v h' => v = .slice h.next 0 n none 1 ∧ h' = (h.push (.cells 5 (zerosA (newCap n l k)) true 1 [])).set h.next (.cells 5 (bs.map byteA ++ zerosA (newCap n l k - n)) true 1 [])) (by rfl)
    ((growSlice_ok (l := l) hb.blk hbs h1 hb.kc hkm hl h0 (by omega)).mono fun r h' hp => ⟨_, hp.1, rfl, hp.2⟩) ?_
  rintro v h' ⟨e, eh⟩
  subst e
  refine ⟨rfl, ?_⟩
  have hcn := find_lt hb.field
  have hc1 : h'.find c = some (.cells tw [.slice b 0 n (some k) 1, .int .i64 0, lr] true fz []) := by rw [eh, find_set_ne find_push_new (by omega)]; exact find_push_old hb.field
  have hn1 : h'.find h.next = some (.cells 5 (bs.map byteA ++ zerosA (newCap n l k - n)) true 1 []) := by rw [eh]; exact find_set_same find_push_new
  have hx1 : h'.next = h.next + 1 := by rw [eh]; rfl
  have hg1 : ∀ j, j ≠ h.next → h'.get j = h.get j := fun j hj => by
    rw [eh, Heap.get_set (by omega) (by omega), if_neg (fun e => hj e.symm)]
    have := (Heap.alloc_eq (h := h) (o := .cells 5 (zerosA (newCap n l k)) true 1 []) alloc_push).2.2.2 j (by omega)
    rw [this, if_neg (fun e => hj e.symm)]
  clear eh
  let F : Nat → AObj := fun m => .cells tw [.slice h.next 0 m none 1, .int .i64 0, lr] true fz []
  have hz := hb.fz1
  have st1 : ∀ {t : Tm} {a x : Opd}, a.ev t = .ptr c 0 → x.ev t = .slice h.next 0 n none 1 → evOp (.store 1 a x) t h' = some (undefA, h'.set c (F n)) := fun ha hx => ev_storeP hc1 ha hx rfl rfl (by simp) (by omega)
  have hc2 : (h'.set c (F n)).find c = some (F n) := find_set_same hc1
  have st2 : ∀ {t : Tm} {a x : Opd}, a.ev t = .ptr c 1 → x.ev t = .int .i64 0 → evOp (.store 1 a x) t (h'.set c (F n)) = some (undefA, (h'.set c (F n)).set c (F n)) := fun ha hx => ev_storeP hc2 ha hx rfl rfl (by simp) (by omega)
  have hc3 : ((h'.set c (F n)).set c (F n)).find c = some (F n) := find_set_same hc2
  have ld3 : ∀ {t : Tm} {x : Opd}, x.ev t = .ptr c 0 → evOp (.load false 1 x) t ((h'.set c (F n)).set c (F n)) = some (.slice h.next 0 n none 1, (h'.set c (F n)).set c (F n)) := fun hx => ev_loadP hc3 rfl hx
  have hn3 : ((h'.set c (F n)).set c (F n)).find h.next = some (.cells 5 (bs.map byteA ++ zerosA (newCap n l k - n)) true 1 []) := by
    rw [find_set_ne hc2 (by omega), find_set_ne hc1 (by omega)]; exact hn1
  have hcap : n + l ≤ newCap n l k := by unfold newCap; split <;> omega
  have hll : (bs.map byteA ++ zerosA (newCap n l k - n)).length = newCap n l k := by simp [hlen, zerosA]; omega
  have sl3 : ∀ {t : Tm} {x hi : Opd}, x.ev t = .slice h.next 0 n none 1 → hi.ev t = .int .i64 (n + l : Nat) → evOp (.sliceSl 1 x none (some hi) none) t ((h'.set c (F n)).set c (F n)) = some (.slice h.next 0 (n + l) none 1, (h'.set c (F n)).set c (F n)) :=
    fun hx hh => ev_sliceNone hx hh hn3 (by rw [hll]; omega) (by omega)
  have st3 : ∀ {t : Tm} {a x : Opd}, a.ev t = .ptr c 0 → x.ev t = .slice h.next 0 (n + l) none 1 → evOp (.store 1 a x) t ((h'.set c (F n)).set c (F n)) = some (undefA, ((h'.set c (F n)).set c (F n)).set c (F (n + l))) := fun ha hx => ev_storeP hc3 ha hx rfl rfl (by simp) (by omega)
  have e10 : wrapA .i64 ((n : Int) + (l : Int)) = ((n + l : Nat) : Int) := by rw [wrap_i64 (by omega) (by omega)]; omega
  (repeat (first | ((first | with_reducible apply Ev_op_of | with_reducible apply EvDn_op_of); (case hp => rfl); (case hv => first | ((with_reducible refine st1 ?_ ?_) <;> exact look (an e1 e10)) | ((with_reducible refine st2 ?_ ?_) <;> exact look (an e1 e10)) | ((with_reducible refine ld3 ?_) <;> exact look (an e1 e10)) | ((with_reducible refine sl3 ?_ ?_) <;> exact look (an e1 e10)) | ((with_reducible refine st3 ?_ ?_) <;> exact look (an e1 e10)) | exact dfl2 (an e1 e10))) | refine adm (an e1 e10) ?_))
  (refine ⟨rfl, _, by exact ret Bool.not_true, ?_⟩)
  refine ⟨rfl, hx1, find_set_same hc3, ?_, fun j h1 h2 => ?_⟩
  · rw [find_set_ne hc3 (by omega)]; exact hn3
  · rw [Heap.get_set (by omega) (by omega), if_neg (fun e => h1 e.symm), Heap.get_set (by omega) (by omega), if_neg (fun e => h1 e.symm), Heap.get_set (by omega) (by omega), if_neg (fun e => h1 e.symm)]
    exact hg1 j h2

/-- what WriteString leaves: in place, or in a new block -/
theorem writeString_ok {bs : List UInt8} {s : List UInt8} (hb : BK h c b n k tw fz cs lr) (hbs : cs.take n = bs.map byteA) (hl : n + s.length ≤ 33554432) (h0 : 0 < n) :
    CallA progT (.fn 47) [.ptr c 0, .str s] h fun r h' => r = .ret (.tuple [.int .i64 s.length, .niliface]) ∧
      ((n + s.length ≤ k ∧ h'.next = h.next ∧ h'.find c = some (.cells tw [.slice b 0 (n + s.length) (some k) 1, .int .i64 0, .int .i8 0] true fz []) ∧ (∃ z, h'.find b = some (.cells 5 ((bs ++ s).map byteA ++ z) true 1 []) ∧ k ≤ n + s.length + z.length) ∧ ∀ j, j ≠ c → j ≠ b → h'.get j = h.get j) ∨
       (k < n + s.length ∧ h'.next = h.next + 1 ∧ h'.find c = some (.cells tw [.slice h.next 0 (n + s.length) none 1, .int .i64 0, .int .i8 0] true fz []) ∧ (∃ z, h'.find h.next = some (.cells 5 ((bs ++ s).map byteA ++ z) true 1 [])) ∧ ∀ j, j ≠ c → j ≠ h.next → h'.get j = h.get j)) := by
  refine CallA_body (by rfl) ?_
  have h1 := hb.le
  have h2 := hb.kpos
  have hlen : bs.length = n := by have := congrArg List.length hbs; have := hb.kc; rw [List.length_take, List.length_map] at *; omega
  have hb2 := hb.set (lr' := .int .i8 0) h1
  (repeat (first | ((first | with_reducible apply Ev_op_of | with_reducible apply EvDn_op_of); (case hp => rfl); (case hv => first | ((with_reducible refine hb.st2 ?_ ?_) <;> exact look Bool.not_true) | exact dfl2 Bool.not_true)) | refine adm Bool.not_true ?_))
  refine Ev_call (by rfl) (tryGrow_ok (l := s.length) hb2 (by omega)) ?_ (by rintro v h' (⟨_, e, _⟩ | ⟨_, e, _⟩) <;> cases e)
  rintro v h' (⟨hroom, e, eh⟩ | ⟨hbig, e, eh⟩)
  · cases e
    have hb3 : BK h' c b (n + s.length) k tw fz cs (.int .i8 0) := by rw [eh]; exact hb2.set hroom
    have hx3 : h'.next = h.next := by rw [eh]; rfl
    have hg3 : ∀ j, j ≠ c → h'.get j = h.get j := fun j hj => by
      rw [eh, Heap.get_set (by omega) (by omega), if_neg (fun e => hj e.symm), Heap.get_set (by omega) (by omega), if_neg (fun e => hj e.symm)]
    clear eh
    have hkc := hb.kc
    by_cases hs : s = []
    · subst hs
      obtain ⟨o2, cap2, sl3⟩ : ∃ o2 cap2, ∀ {t : Tm} {x lo : Opd}, x.ev t = .slice b 0 (n + ([] : List UInt8).length) (some k) 1 → lo.ev t = .int .i64 (n : Nat) → evOp (.sliceSl 1 x (some lo) none none) t h' = some (.slice b o2 0 cap2 1, h') := by
        by_cases hnk : n < k
        · refine ⟨0 + n * 1, some (k - n), fun {t x lo} hx hh => ?_⟩
          have := ev_sliceLo (h := h') hx hh (by simp) hnk (by simpa using h1)
          rw [this]; simp
        · have hnk2 : k = n := by omega
          refine ⟨0, some 0, fun {t x lo} hx hh => ?_⟩
          subst hnk2
          have h1 : boundA (.int .i64 (k : Nat)) k = some k := by simp only [boundA]; rw [if_pos (by omega)]; simp
          simp only [List.length_nil, Nat.add_zero] at hx
          simp only [evOp, hx, extA, sliceSlA, ne_eq, not_true_eq_false, if_false, capA, boundO, hh, h1, if_true, Nat.sub_self]
      have cp3 : ∀ {t : Tm} {d x : Opd}, d.ev t = .slice b o2 0 cap2 1 → x.ev t = .str [] → evOp (.copy 1 d x) t h' = some (.int .i64 (([] : List UInt8).length : Nat), h') := fun hd hx => ev_copy0 hd hx rfl rfl
      (repeat (first | ((first | with_reducible apply Ev_op_of | with_reducible apply EvDn_op_of); (case hp => rfl); (case hv => first | ((with_reducible refine hb3.ld ?_) <;> exact look Bool.not_true) | ((with_reducible refine sl3 ?_ ?_) <;> exact look Bool.not_true) | ((with_reducible refine cp3 ?_ ?_) <;> exact look Bool.not_true) | exact dfl2 Bool.not_true)) | refine adm Bool.not_true ?_))
      (refine ⟨rfl, _, by exact ret Bool.not_true, ?_⟩)
      refine ⟨rfl, .inl ⟨hroom, hx3, hb3.field, ⟨cs.drop n, ?_, by simp; omega⟩, fun j h1 h2 => hg3 j h1⟩⟩
      rw [hb3.blk, List.append_nil, ← hbs, List.take_append_drop]
    · have hlen0 : 0 < s.length := List.length_pos_iff.2 hs
      have sl3 : ∀ {t : Tm} {x lo : Opd}, x.ev t = .slice b 0 (n + s.length) (some k) 1 → lo.ev t = .int .i64 (n : Nat) → evOp (.sliceSl 1 x (some lo) none none) t h' = some (.slice b n s.length (some (k - n)) 1, h') := fun hx hh => by
        have := ev_sliceLo (h := h') hx hh (by omega) (by omega) hroom
        simpa using this
      have cp3 : ∀ {t : Tm} {d x : Opd}, d.ev t = .slice b n s.length (some (k - n)) 1 → x.ev t = .str s → evOp (.copy 1 d x) t h' = some (.int .i64 (s.length : Nat), h'.set b (.cells 5 (cs.take n ++ s.map byteA ++ cs.drop (n + s.length)) true 1 [])) := fun hd hx =>
        ev_copyB hd hx rfl (Nat.le_refl _) (by simp only [sourceA, List.take_length]) (by simp) hb3.blk (by omega) (allCells_bytes s) (by omega) hlen0
      (repeat (first | ((first | with_reducible apply Ev_op_of | with_reducible apply EvDn_op_of); (case hp => rfl); (case hv => first | ((with_reducible refine hb3.ld ?_) <;> exact look Bool.not_true) | ((with_reducible refine sl3 ?_ ?_) <;> exact look Bool.not_true) | ((with_reducible refine cp3 ?_ ?_) <;> exact look Bool.not_true) | exact dfl2 Bool.not_true)) | refine adm Bool.not_true ?_))
      (refine ⟨rfl, _, by exact ret Bool.not_true, ?_⟩)
      refine ⟨rfl, .inl ⟨hroom, hx3, ?_, ⟨cs.drop (n + s.length), ?_, by simp; omega⟩, fun j h1 h2 => ?_⟩⟩
      · rw [find_set_ne hb3.blk (fun e => hb.ne e.symm)]; exact hb3.field
      · rw [find_set_same hb3.blk, hbs, List.map_append]
      · rw [Heap.get_set (by omega) (by omega), if_neg (fun e => h2 e.symm)]; exact hg3 j h1
  · have e4 := e
    cases e
    have hb3 : BK h' c b n k tw fz cs (.int .i8 0) := by rw [eh]; exact hb2
    have hx3 : h'.next = h.next := by rw [eh]; rfl
    have hg3 : ∀ j, j ≠ c → h'.get j = h.get j := fun j hj => by
      rw [eh, Heap.get_set (by omega) (by omega), if_neg (fun e => hj e.symm)]
    clear eh e4
    (repeat (first | ((first | with_reducible apply Ev_op_of | with_reducible apply EvDn_op_of); (case hp => rfl); (case hv => exact dfl2 Bool.not_false)) | refine adm Bool.not_false ?_))
    refine Ev_call (by rfl) (grow_ok (l := s.length) hb3 hbs (by omega) hl h0 hbig) ?_ (by rintro v h' ⟨e, _⟩; cases e)
    rintro v h4 ⟨e, hG⟩
    cases e
    have hls : 0 < s.length := by omega
    have hcap : n + s.length ≤ newCap n s.length k := by unfold newCap; split <;> omega
    have hll : (bs.map byteA ++ zerosA (newCap n s.length k - n)).length = newCap n s.length k := by simp [hlen, zerosA]; omega
    have ld4 : ∀ {t : Tm} {x : Opd}, x.ev t = .ptr c 0 → evOp (.load false 1 x) t h4 = some (.slice h'.next 0 (n + s.length) none 1, h4) := fun hx => ev_loadP hG.field rfl hx
    have sl4 : ∀ {t : Tm} {x lo : Opd}, x.ev t = .slice h'.next 0 (n + s.length) none 1 → lo.ev t = .int .i64 (n : Nat) → evOp (.sliceSl 1 x (some lo) none none) t h4 = some (.slice h'.next n s.length none 1, h4) := fun {t x lo} hx hh => by
      have hd : Nat.div ((bs.map byteA ++ zerosA (newCap n s.length k - n)).length - 0) 1 = newCap n s.length k := by rw [hll]; exact Nat.div_one _
      have h1 : boundA (.int .i64 (n : Nat)) (n + s.length) = some n := by simp only [boundA]; rw [if_pos (by omega)]; simp
      have h2 : n < max (n + s.length) (newCap n s.length k) := by omega
      simp only [evOp, hx, extA, hG.blk, hd, sliceSlA, ne_eq, not_true_eq_false, if_false, capA, boundO, hh, h1, reduceCtorEq, h2, if_true, Nat.zero_add, Nat.mul_one, Nat.add_sub_cancel_left]
    have cp4 : ∀ {t : Tm} {d x : Opd}, d.ev t = .slice h'.next n s.length none 1 → x.ev t = .str s → evOp (.copy 1 d x) t h4 = some (.int .i64 (s.length : Nat), h4.set h'.next (.cells 5 ((bs.map byteA ++ zerosA (newCap n s.length k - n)).take n ++ s.map byteA ++ (bs.map byteA ++ zerosA (newCap n s.length k - n)).drop (n + s.length)) true 1 [])) := fun hd hx =>
      ev_copyB hd hx rfl (Nat.le_refl _) (by simp only [sourceA, List.take_length]) (by simp) hG.blk (by omega) (allCells_bytes s) (by rw [hll]; exact hcap) hls
    have hcn := find_lt hb3.field
    (repeat (first | ((first | with_reducible apply Ev_op_of | with_reducible apply EvDn_op_of); (case hp => rfl); (case hv => first | ((with_reducible refine ld4 ?_) <;> exact look Bool.not_false) | ((with_reducible refine sl4 ?_ ?_) <;> exact look Bool.not_false) | ((with_reducible refine cp4 ?_ ?_) <;> exact look Bool.not_false) | exact dfl2 Bool.not_false)) | refine adm Bool.not_false ?_))
    (refine ⟨rfl, _, by exact ret Bool.not_true, ?_⟩)
    have htk : (bs.map byteA ++ zerosA (newCap n s.length k - n)).take n = bs.map byteA := by rw [List.take_append_of_le_length (by simp [hlen]), List.take_of_length_le (by simp [hlen])]
    refine ⟨rfl, .inr ⟨hbig, ?_, ?_, ⟨(bs.map byteA ++ zerosA (newCap n s.length k - n)).drop (n + s.length), ?_⟩, fun j h1 h2 => ?_⟩⟩
    · rw [← hx3]; exact hG.next
    · rw [find_set_ne hG.blk (by omega), ← hx3]; exact hG.field
    · rw [← hx3, find_set_same hG.blk, htk, List.map_append]
    · rw [Heap.get_set (by omega) (by omega), if_neg (fun e => h2 (by omega)), hG.rest j h1 (by omega), hg3 j h1]
end Go.AM

/- BUFFERS OF BYTES: one byte written. -/
namespace Go.AM
set_option maxRecDepth 10000
set_option linter.unusedSimpArgs false
variable {h : Heap} {c b n k tw fz l : Nat} {cs : List AV} {lr : AV}

theorem ev_idxS {t : Tm} {h : Heap} {b o n j : Nat} {cap : Option Nat} {x i : Opd} {kk : IntKind} (hx : x.ev t = .slice b o n cap 1) (hi : i.ev t = .int kk j) (hj : j < n) : evOp (.idxAddrS 1 x i) t h = some (.ptr b (o + j), h) := by
  have : idxA (.int kk (j : Int)) n = some j := by simp only [idxA]; rw [if_pos (by omega)]; simp
  simp only [evOp, hx, hi, if_true, this, Nat.mul_one]

theorem writeByte_ok {bs : List UInt8} {s : UInt8} (hb : BK h c b n k tw fz cs lr) (hbs : cs.take n = bs.map byteA) (hl : n + 1 ≤ 33554432) (h0 : 0 < n) :
    CallA progT (.fn 48) [.ptr c 0, byteA s] h fun r h' => r = .ret .niliface ∧
      ((n + 1 ≤ k ∧ h'.next = h.next ∧ h'.find c = some (.cells tw [.slice b 0 (n + 1) (some k) 1, .int .i64 0, .int .i8 0] true fz []) ∧ (∃ z, h'.find b = some (.cells 5 ((bs ++ [s]).map byteA ++ z) true 1 []) ∧ k ≤ n + 1 + z.length) ∧ ∀ j, j ≠ c → j ≠ b → h'.get j = h.get j) ∨
       (k < n + 1 ∧ h'.next = h.next + 1 ∧ h'.find c = some (.cells tw [.slice h.next 0 (n + 1) none 1, .int .i64 0, .int .i8 0] true fz []) ∧ (∃ z, h'.find h.next = some (.cells 5 ((bs ++ [s]).map byteA ++ z) true 1 [])) ∧ ∀ j, j ≠ c → j ≠ h.next → h'.get j = h.get j)) := by
  refine CallA_body (by rfl) ?_
  have h1 := hb.le
  have h2 := hb.kpos
  have hkc := hb.kc
  have hlen : bs.length = n := by have := congrArg List.length hbs; rw [List.length_take, List.length_map] at *; omega
  have hb2 := hb.set (lr' := .int .i8 0) h1
  (repeat (first | ((first | with_reducible apply Ev_op_of | with_reducible apply EvDn_op_of); (case hp => rfl); (case hv => first | ((with_reducible refine hb.st2 ?_ ?_) <;> exact look Bool.not_true) | exact dfl2 Bool.not_true)) | refine adm Bool.not_true ?_))
  refine Ev_call (by rfl) (tryGrow_ok (l := 1) hb2 (by omega)) ?_ (by rintro v h' (⟨_, e, _⟩ | ⟨_, e, _⟩) <;> cases e)
  rintro v h' (⟨hroom, e, eh⟩ | ⟨hbig, e, eh⟩)
  · cases e
    have hb3 : BK h' c b (n + 1) k tw fz cs (.int .i8 0) := by rw [eh]; exact hb2.set hroom
    have hx3 : h'.next = h.next := by rw [eh]; rfl
    have hg3 : ∀ j, j ≠ c → h'.get j = h.get j := fun j hj => by
      rw [eh, Heap.get_set (by omega) (by omega), if_neg (fun e => hj e.symm), Heap.get_set (by omega) (by omega), if_neg (fun e => hj e.symm)]
    clear eh
    have ix3 : ∀ {t : Tm} {x i : Opd}, x.ev t = .slice b 0 (n + 1) (some k) 1 → i.ev t = .int .i64 (n : Nat) → evOp (.idxAddrS 1 x i) t h' = some (.ptr b n, h') := fun hx hi => by
      have := ev_idxS (h := h') hx hi (by omega)
      simpa using this
    have st3 : ∀ {t : Tm} {a x : Opd}, a.ev t = .ptr b n → x.ev t = byteA s → evOp (.store 1 a x) t h' = some (undefA, h'.set b (.cells 5 (cs.take n ++ byteA s :: cs.drop (n + 1)) true 1 [])) := fun ha hx => ev_storeP hb3.blk ha hx rfl rfl (by omega) (by omega)
    (repeat (first | ((first | with_reducible apply Ev_op_of | with_reducible apply EvDn_op_of); (case hp => rfl); (case hv => first | ((with_reducible refine hb3.ld ?_) <;> exact look Bool.not_true) | ((with_reducible refine ix3 ?_ ?_) <;> exact look Bool.not_true) | ((with_reducible refine st3 ?_ ?_) <;> exact look Bool.not_true) | exact dfl2 Bool.not_true)) | refine adm Bool.not_true ?_))
    (refine ⟨rfl, _, by exact ret Bool.not_true, ?_⟩)
    refine ⟨rfl, .inl ⟨hroom, hx3, ?_, ⟨cs.drop (n + 1), ?_, by simp; omega⟩, fun j h1 h2 => ?_⟩⟩
    · rw [find_set_ne hb3.blk (fun e => hb.ne e.symm)]; exact hb3.field
    · rw [find_set_same hb3.blk, hbs, List.map_append]; simp
    · rw [Heap.get_set (by omega) (by omega), if_neg (fun e => h2 e.symm)]; exact hg3 j h1
  · cases e
    have hb3 : BK h' c b n k tw fz cs (.int .i8 0) := by rw [eh]; exact hb2
    have hx3 : h'.next = h.next := by rw [eh]; rfl
    have hg3 : ∀ j, j ≠ c → h'.get j = h.get j := fun j hj => by
      rw [eh, Heap.get_set (by omega) (by omega), if_neg (fun e => hj e.symm)]
    clear eh
    (repeat (first | ((first | with_reducible apply Ev_op_of | with_reducible apply EvDn_op_of); (case hp => rfl); (case hv => exact dfl2 Bool.not_false)) | refine adm Bool.not_false ?_))
    refine Ev_call (by rfl) (grow_ok (l := 1) hb3 hbs (by omega) hl h0 hbig) ?_ (by rintro v h' ⟨e, _⟩; cases e)
    rintro v h4 ⟨e, hG⟩
    cases e
    have hcap : n + 1 ≤ newCap n 1 k := by unfold newCap; split <;> omega
    have hll : (bs.map byteA ++ zerosA (newCap n 1 k - n)).length = newCap n 1 k := by simp [hlen, zerosA]; omega
    have ld4 : ∀ {t : Tm} {x : Opd}, x.ev t = .ptr c 0 → evOp (.load false 1 x) t h4 = some (.slice h'.next 0 (n + 1) none 1, h4) := fun hx => ev_loadP hG.field rfl hx
    have ix4 : ∀ {t : Tm} {x i : Opd}, x.ev t = .slice h'.next 0 (n + 1) none 1 → i.ev t = .int .i64 (n : Nat) → evOp (.idxAddrS 1 x i) t h4 = some (.ptr h'.next n, h4) := fun hx hi => by
      have := ev_idxS (h := h4) hx hi (by omega)
      simpa using this
    have st4 : ∀ {t : Tm} {a x : Opd}, a.ev t = .ptr h'.next n → x.ev t = byteA s → evOp (.store 1 a x) t h4 = some (undefA, h4.set h'.next (.cells 5 ((bs.map byteA ++ zerosA (newCap n 1 k - n)).take n ++ byteA s :: (bs.map byteA ++ zerosA (newCap n 1 k - n)).drop (n + 1)) true 1 [])) := fun ha hx =>
      ev_storeP hG.blk ha hx rfl rfl (by rw [hll]; omega) (by omega)
    have hcn := find_lt hb3.field
    (repeat (first | ((first | with_reducible apply Ev_op_of | with_reducible apply EvDn_op_of); (case hp => rfl); (case hv => first | ((with_reducible refine ld4 ?_) <;> exact look Bool.not_false) | ((with_reducible refine ix4 ?_ ?_) <;> exact look Bool.not_false) | ((with_reducible refine st4 ?_ ?_) <;> exact look Bool.not_false) | exact dfl2 Bool.not_false)) | refine adm Bool.not_false ?_))
    (refine ⟨rfl, _, by exact ret Bool.not_true, ?_⟩)
    have htk : (bs.map byteA ++ zerosA (newCap n 1 k - n)).take n = bs.map byteA := by rw [List.take_append_of_le_length (by simp [hlen]), List.take_of_length_le (by simp [hlen])]
    refine ⟨rfl, .inr ⟨hbig, ?_, ?_, ⟨(bs.map byteA ++ zerosA (newCap n 1 k - n)).drop (n + 1), ?_⟩, fun j h1 h2 => ?_⟩⟩
    · rw [← hx3]; exact hG.next
    · rw [find_set_ne hG.blk (by omega), ← hx3]; exact hG.field
    · rw [← hx3, find_set_same hG.blk, htk, List.map_append]; simp
    · rw [Heap.get_set (by omega) (by omega), if_neg (fun e => h2 (by omega)), hG.rest j h1 (by omega), hg3 j h1]
end Go.AM

/- BUFFERS OF BYTES: whatever the capacity is. -/
namespace Go.AM
set_option maxRecDepth 10000
set_option linter.unusedSimpArgs false

section
variable {h h' : Heap} {c b n tw fz : Nat} {bs : List UInt8} {lr : AV} {α : Type} {f : Nat} {a : α → AV} {d : α → List UInt8} {v : α → AV}

/-- the state of a buffer of which only the bytes are known -/
structure Unk (h : Heap) (c b n tw fz : Nat) (lr : AV) (bs : List UInt8) (z : List AV) : Prop where
  field : h.find c = some (.cells tw [.slice b 0 n none 1, .int .i64 0, lr] true fz [])
  blk : h.find b = some (.cells 5 (bs.map byteA ++ z) true 1 [])
  len : bs.length = n
  pos : 0 < n
  ne : c ≠ b
  fz1 : fz ≤ 1

def restB (lr : AV) : List AV := [.int .i64 0, lr]

variable {z : List AV}

theorem Unk.learnt (hu : Unk h c b n tw fz lr bs z) {m : Nat} (hm : n ≤ m) (hm63 : m < 9223372036854775808) : BK (learnt h c b n tw fz 5 [] (restB lr) (bs.map byteA ++ z) m) c b n m tw fz (bs.map byteA ++ z ++ List.replicate (m - (bs.map byteA ++ z).length) .bot) lr := by
  have hc := find_lt hu.field
  have hb := find_lt hu.blk
  refine ⟨Heap.find_some.2 ⟨hc, ?_⟩, Heap.find_some.2 ⟨hb, ?_⟩, hu.ne, hm, ?_, hm63, ?_, hu.fz1⟩
  · rw [learnt_get, if_pos rfl]; rfl
  · rw [learnt_get, if_neg (fun e => hu.ne e.symm), if_pos rfl]
  · rw [@List.length_append _ (bs.map byteA ++ z), List.length_replicate]; omega
  · have := hu.pos; omega

theorem Unk.take (hu : Unk h c b n tw fz lr bs z) (r : List AV) : (bs.map byteA ++ z ++ r).take n = bs.map byteA := by
  have hl : (bs.map byteA).length = n := by rw [List.length_map]; exact hu.len
  rw [List.append_assoc, List.take_append_of_le_length (by omega), List.take_of_length_le (by omega)]

theorem Unk.grow (hu : Unk h c b n tw fz lr bs z) : Grow h c b n tw fz 5 [] (restB lr) (bs.map byteA ++ z) none := ⟨hu.ne, find_get hu.field, find_get hu.blk⟩

/-- what a write leaves where the capacity is known -/
def Left1 (h h' : Heap) (c b n k tw fz : Nat) (bs s : List UInt8) : Prop :=
  (n + s.length ≤ k ∧ h'.next = h.next ∧ h'.find c = some (.cells tw [.slice b 0 (n + s.length) (some k) 1, .int .i64 0, .int .i8 0] true fz []) ∧ (∃ z, h'.find b = some (.cells 5 ((bs ++ s).map byteA ++ z) true 1 []) ∧ k ≤ n + s.length + z.length) ∧ ∀ j, j ≠ c → j ≠ b → h'.get j = h.get j) ∨
  (k < n + s.length ∧ h'.next = h.next + 1 ∧ h'.find c = some (.cells tw [.slice h.next 0 (n + s.length) none 1, .int .i64 0, .int .i8 0] true fz []) ∧ (∃ z, h'.find h.next = some (.cells 5 ((bs ++ s).map byteA ++ z) true 1 [])) ∧ ∀ j, j ≠ c → j ≠ h.next → h'.get j = h.get j)

/-- a method that writes -/
structure WrSpec (f : Nat) (a : α → AV) (d : α → List UInt8) (v : α → AV) : Prop where
  inj : ∀ x y, a x = a y → x = y
  run : ∀ {h : Heap} {c b n k tw fz : Nat} {cs : List AV} {lr : AV} {bs : List UInt8} {x : α}, BK h c b n k tw fz cs lr → cs.take n = bs.map byteA → n + (d x).length ≤ 33554432 → 0 < n →
    CallA progT (.fn f) [.ptr c 0, a x] h fun r h' => r = .ret (v x) ∧ Left1 h h' c b n k tw fz bs (d x)

def WrQ (a : α → AV) (d : α → List UInt8) (v : α → AV) (args : List AV) (h : Heap) (r : ARes × Heap) : Prop :=
  ∃ c b n tw fz lr bs z x, args = [.ptr c 0, a x] ∧ Unk h c b n tw fz lr bs z ∧ n + (d x).length ≤ 33554432 ∧ r = (.ret (v x), putH h c b (n + (d x).length) tw fz 5 [] [.int .i64 0, .int .i8 0] ((bs ++ d x).map byteA))

theorem byteA_inj : ∀ x y : UInt8, byteA x = byteA y → x = y := fun x y h => by
  simp only [byteA, AV.int.injEq, true_and] at h
  exact UInt8.toNat_inj.1 (by omega)

theorem bytes_inj {l l' : List UInt8} (h : l.map byteA = l'.map byteA) : l = l' := by
  have := congrArg bytesOf h
  rw [bytesOf_map, bytesOf_map] at this
  exact Option.some.inj this

theorem WrQ.unique (hi : ∀ x y, a x = a y → x = y) {args : List AV} {r r' : ARes × Heap} (h1 : WrQ a d v args h r) (h2 : WrQ a d v args h r') : r = r' := by
  obtain ⟨c, b, n, tw, fz, lr, bs, z, x, e1, u1, _, rfl⟩ := h1
  obtain ⟨c', b', n', tw', fz', lr', bs', z', x', e2, u2, _, rfl⟩ := h2
  rw [e1] at e2
  simp only [List.cons.injEq, AV.ptr.injEq, and_true] at e2
  obtain ⟨rfl, e3⟩ := e2
  obtain rfl := hi _ _ e3
  have f2 := u2.field
  rw [u1.field] at f2
  simp only [Option.some.injEq, AObj.cells.injEq, List.cons.injEq, AV.slice.injEq, and_true, true_and] at f2
  obtain ⟨rfl, ⟨⟨rfl, rfl⟩, rfl⟩, rfl⟩ := f2
  have b2 := u2.blk
  rw [u1.blk] at b2
  simp only [Option.some.injEq, AObj.cells.injEq, and_true, true_and] at b2
  have hl : (bs.map byteA).length = (bs'.map byteA).length := by rw [List.length_map, List.length_map, u1.len, u2.len]
  obtain rfl := bytes_inj (List.append_inj b2 hl).1
  rfl

noncomputable def wrF (f : Nat) (a : α → AV) (d : α → List UInt8) (v : α → AV) (args : List AV) (h : Heap) : Option (ARes × Heap) :=
  open Classical in if hx : ∃ r, WrQ a d v args h r then some (Classical.choose hx) else ranF progT f args h

theorem wrF_of (hi : ∀ x y, a x = a y → x = y) {args : List AV} {r : ARes × Heap} (hq : WrQ a d v args h r) : wrF f a d v args h = some r := by
  have hx : ∃ r, WrQ a d v args h r := ⟨r, hq⟩
  unfold wrF
  rw [dif_pos hx]
  exact congrArg some (WrQ.unique hi (Classical.choose_spec hx) hq)

theorem wrF_ran {args : List AV} {P : ARes → Heap → Prop} (hq : ∀ r, ¬ WrQ a d v args h r) (hc : CallA progT (.fn f) args h P) : ∃ r h', wrF f a d v args h = some (r, h') ∧ P r h' := by
  obtain ⟨n, r, h', h1, h2⟩ := hc
  refine ⟨r, h', ?_, h2⟩
  unfold wrF
  rw [dif_neg (fun ⟨r, hr⟩ => hq r hr)]
  exact ranF_of h1

theorem wrF_ok {T : Tb} (hmo : T.P.follows .mixedOrders = true) (hpo : ProgOK T progT) (W : WrSpec f a d v) : HSpecOK T f (wrF f a d v) := by
  intro C hT hg args r h h' ρ w xs hr hrel hv
  subst hT
  by_cases hx : ∃ r, WrQ a d v args h r
  · obtain ⟨r0, hq⟩ := hx
    rw [wrF_of W.inj hq] at hr
    simp only [Option.some.injEq] at hr
    subst hr
    obtain ⟨c, b, n, tw, fz, lr, bs, z0, x, rfl, hu, hlim, e⟩ := hq
    simp only [Prod.mk.injEq] at e
    obtain ⟨rfl, rfl⟩ := e
    have hc : ∃ y, ρ c = some y := by
      simp only [VRs, VR] at hv
      obtain ⟨_, _, _, ⟨B, m, h1, _⟩, _⟩ := hv
      exact ⟨_, h1⟩
    refine put_case (prog := progT) hmo hg hpo hrel hv hu.grow hc (fun m hm hm63 => ?_) putH_to
    obtain ⟨fuel, r, hR, e1, e2, e3⟩ := W.run (x := x) (hu.learnt hm hm63) (hu.take _) hlim hu.pos
    subst e2
    have hcn := find_lt hu.field
    have hbn := find_lt hu.blk
    rcases e3 with ⟨k1, k2, k3, ⟨z, k4, _⟩, k5⟩ | ⟨k1, k2, k3, ⟨z, k4⟩, k5⟩
    · refine ⟨fuel, hR, _, z, e1, rfl, .inl ⟨k2, fun j => ?_⟩⟩
      by_cases jb : j = b
      · subst jb; rw [if_pos rfl]; exact find_get k4
      · rw [if_neg jb]
        by_cases jc : j = c
        · subst jc; rw [if_pos rfl]; exact find_get k3
        · rw [if_neg jc, k5 j jc jb, learnt_get, if_neg jc, if_neg jb]
    · rw [learnt_next] at k2 k3 k4 k5
      refine ⟨fuel, hR, _, z, e1, rfl, .inr ⟨k2, ?_, fun j jb => ?_⟩⟩
      · have hx := k5 b (fun e => hu.ne e.symm) (by omega)
        rw [learnt_get, if_neg (fun e => hu.ne e.symm), if_pos rfl] at hx
        exact ⟨_, hx⟩
      · by_cases jn : j = h.next
        · subst jn; rw [if_pos rfl]; exact find_get k4
        · rw [if_neg jn]
          by_cases jc : j = c
          · subst jc; rw [if_pos rfl]; exact find_get k3
          · rw [if_neg jc, k5 j jc jn, learnt_get, if_neg jc, if_neg jb]
  · have hr2 : ranF progT f args h = some (r, h') := by
      unfold wrF at hr
      rwa [dif_neg hx] at hr
    exact ranF_ok hmo hpo C rfl hg args r h h' ρ w xs hr2 hrel hv

theorem writeString_spec : WrSpec 47 (fun s : List UInt8 => AV.str s) (fun s => s) (fun s => .tuple [.int .i64 s.length, .niliface]) := ⟨fun x y h => by simpa using h, fun hb hbs hl h0 => writeString_ok hb hbs hl h0⟩
theorem writeByte_spec : WrSpec 48 byteA (fun s => [s]) (fun _ => .niliface) := ⟨byteA_inj, fun hb hbs hl h0 => writeByte_ok hb hbs hl h0⟩

/-! A buffer that has only been written: its struct is block c, its bytes lie in a block behind it -/
inductive Buf (h : Heap) (c : Nat) : Option Nat → List UInt8 → Prop
  | nil {tw fz : Nat} {lr : AV} (hf : h.find c = some (.cells tw [.nilslice, .int .i64 0, lr] true fz [])) (hz : fz ≤ 1) : Buf h c none []
  | known {b n k tw fz : Nat} {cs : List AV} {lr : AV} {bs : List UInt8} (hb : BK h c b n k tw fz cs lr) (hbs : cs.take n = bs.map byteA) (h0 : 0 < n) (hcb : c < b) : Buf h c (some b) bs
  | unk {b n tw fz : Nat} {lr : AV} {bs : List UInt8} {z : List AV} (hu : Unk h c b n tw fz lr bs z) (hcb : c < b) : Buf h c (some b) bs

/-- what writers leave as it is -/
structure Wrote (c : Nat) (h : Heap) (o : Option Nat) (h' : Heap) (o' : Option Nat) : Prop where
  next : h.next ≤ h'.next
  blk : o' = o ∨ ∃ b, o' = some b ∧ h.next ≤ b
  get : ∀ j, j < h.next → j ≠ c → o ≠ some j → h'.get j = h.get j

theorem Wrote.refl {o : Option Nat} : Wrote c h o h o := ⟨Nat.le_refl _, .inl rfl, fun _ _ _ _ => rfl⟩
theorem Wrote.trans {h2 : Heap} {o o' o2 : Option Nat} (h1 : Wrote c h o h' o') (h3 : Wrote c h' o' h2 o2) : Wrote c h o h2 o2 := by
  refine ⟨Nat.le_trans h1.next h3.next, ?_, fun j hj hc ho => ?_⟩
  · rcases h3.blk with rfl | ⟨b, rfl, hb⟩
    · exact h1.blk
    · exact .inr ⟨b, rfl, Nat.le_trans h1.next hb⟩
  · rw [h3.get j (Nat.lt_of_lt_of_le hj h1.next) hc ?_, h1.get j hj hc ho]
    rcases h1.blk with rfl | ⟨b, rfl, hb⟩
    · exact ho
    · intro e; cases e; omega

theorem Wrote.same {o o' : Option Nat} (hw : Wrote c h o h' o') : Same (fun j => j ≠ c ∧ o ≠ some j) h h' := ⟨hw.next, fun j hS hj => hw.get j hj hS.1 hS.2⟩

theorem Buf.above {o : Option Nat} (hb : Buf h c o bs) : ∀ j, o = some j → c < j := by
  intro j e
  cases hb with
  | nil _ _ => cases e
  | known _ _ _ hcb => cases e; exact hcb
  | unk _ hcb => cases e; exact hcb

theorem Wrote.below {o o' : Option Nat} (hw : Wrote c h o h' o') (hb : Buf h c o bs) : Same (fun j => j < c) h h' :=
  hw.same.sub fun j hj => ⟨by omega, fun e => by have := hb.above j e; omega⟩

/-- a buffer with other blocks beside it -/
theorem Buf.same {o : Option Nat} (hb : Buf h c o bs) (hs : Same (fun j => j = c ∨ o = some j) h h') : Buf h' c o bs := by
  cases hb with
  | nil hf hz => exact .nil (hs.find (.inl rfl) hf) hz
  | known hb hbs h0 hcb => exact .known ⟨hs.find (.inl rfl) hb.field, hs.find (.inr rfl) hb.blk, hb.ne, hb.le, hb.kc, hb.kmax, hb.kpos, hb.fz1⟩ hbs h0 hcb
  | unk hu hcb => exact .unk ⟨hs.find (.inl rfl) hu.field, hs.find (.inr rfl) hu.blk, hu.len, hu.pos, hu.ne, hu.fz1⟩ hcb

theorem Left1.buf {k : Nat} {cs : List AV} {s : List UInt8} (hb : BK h c b n k tw fz cs lr) (hbs : cs.take n = bs.map byteA) (h0 : 0 < n) (hcb : c < b) (hl : Left1 h h' c b n k tw fz bs s) :
    ∃ o', Buf h' c o' (bs ++ s) ∧ Wrote c h (some b) h' o' := by
  have hlen : bs.length = n := by have := congrArg List.length hbs; have := hb.kc; have := hb.le; rw [List.length_take, List.length_map] at *; omega
  have hcn := find_lt hb.field
  have hl2 : ((bs ++ s).map byteA).length = n + s.length := by simp [hlen]
  rcases hl with ⟨k1, k2, k3, ⟨z, k4, kz⟩, k5⟩ | ⟨k1, k2, k3, ⟨z, k4⟩, k5⟩
  · refine ⟨some b, .known (k := k) (n := n + s.length) ⟨k3, k4, hb.ne, k1, by rw [List.length_append]; omega, hb.kmax, hb.kpos, hb.fz1⟩ ?_ (by omega) hcb, by omega, .inl rfl, fun j hj hc ho => k5 j hc (fun e => ho (by rw [e]))⟩
    rw [List.take_append_of_le_length (by omega), List.take_of_length_le (by omega)]
  · refine ⟨some h.next, .unk (n := n + s.length) ⟨k3, k4, by simp [hlen], by omega, by omega, hb.fz1⟩ (by omega), by omega, .inr ⟨_, rfl, Nat.le_refl _⟩, fun j hj hc ho => k5 j hc (by omega)⟩

/-- any program in which a writer is what is proved of it -/
theorem wr_ok (W : WrSpec f a d v) {prog : Nat → Option AFun} (hp : prog f = some (.hspec (wrF f a d v))) {o : Option Nat} {x : α} (hb : Buf h c o bs) (hl : bs.length + (d x).length ≤ 33554432)
    (hn : bs = [] → o = none → CallA progT (.fn f) [.ptr c 0, a x] h fun r h' => r = .ret (v x) ∧ ∃ o', Buf h' c o' (d x) ∧ Wrote c h o h' o') :
    CallA prog (.fn f) [.ptr c 0, a x] h fun r h' => r = .ret (v x) ∧ ∃ o', Buf h' c o' (bs ++ d x) ∧ Wrote c h o h' o' := by
  cases hb with
  | nil hf hz =>
    obtain ⟨r, h', e1, e2⟩ := wrF_ran (f := f) (a := a) (d := d) (v := v) (h := h) (args := [.ptr c 0, a x]) (fun r hq => by
      obtain ⟨c', b', n', tw', fz', lr', bs', z', x', e, u, _⟩ := hq
      simp only [List.cons.injEq, AV.ptr.injEq, and_true] at e
      obtain ⟨rfl, _⟩ := e
      have := u.field
      rw [hf] at this
      simp at this) (hn rfl rfl)
    exact CallA_hspec hp e1 e2
  | known hb hbs h0 hcb =>
    have hlen := congrArg List.length hbs
    rw [List.length_take, List.length_map] at hlen
    have hkc := hb.kc
    have hle := hb.le
    obtain ⟨r, h', e1, e2, e3⟩ := wrF_ran (f := f) (a := a) (d := d) (v := v) (h := h) (args := [.ptr c 0, a x]) (fun r hq => by
      obtain ⟨c', b', n', tw', fz', lr', bs', z', x', e, u, _⟩ := hq
      simp only [List.cons.injEq, AV.ptr.injEq, and_true] at e
      obtain ⟨rfl, _⟩ := e
      have := u.field
      rw [hb.field] at this
      simp at this) (W.run (x := x) hb hbs (by omega) h0)
    exact CallA_hspec hp e1 ⟨e2, Left1.buf hb hbs h0 hcb e3⟩
  | @unk b n tw fz lr _ z hu hcb =>
    refine CallA_hspec hp (wrF_of W.inj ⟨_, _, _, _, _, _, _, _, x, rfl, hu, by have := hu.len; omega, rfl⟩) ⟨rfl, some h.next, ?_, ?_⟩
    · have hc := find_lt hu.field
      refine .unk (z := []) (tw := tw) (fz := fz) (lr := .int .i8 0) (n := n + (d x).length) ⟨Heap.find_some.2 ⟨?_, ?_⟩, Heap.find_some.2 ⟨?_, ?_⟩, by rw [List.length_append, hu.len], by have := hu.pos; omega, by omega, hu.fz1⟩ hc
      · rw [putH_to.1]; omega
      · rw [putH_to.2, if_neg (by omega), if_pos rfl]
      · rw [putH_to.1]; omega
      · rw [putH_to.2, if_pos rfl, List.append_nil]
    · refine ⟨by rw [putH_to.1]; omega, .inr ⟨_, rfl, Nat.le_refl _⟩, fun j hj hc ho => ?_⟩
      rw [putH_to.2, if_neg (by omega), if_neg hc, if_neg (fun e => ho (by rw [e]))]
end
end Go.AM

/- BUFFERS OF BYTES: the first write. -/
namespace Go.AM
set_option maxRecDepth 10000
set_option linter.unusedSimpArgs false
section
variable {h h' : Heap} {c tw fz l : Nat} {lr : AV}

structure Nl (h : Heap) (c tw fz : Nat) (lr : AV) : Prop where
  field : h.find c = some (.cells tw [.nilslice, .int .i64 0, lr] true fz [])
  fz1 : fz ≤ 1

theorem Nl.ld (hb : Nl h c tw fz lr) {t : Tm} {x : Opd} (hx : x.ev t = .ptr c 0) : evOp (.load false 1 x) t h = some (.nilslice, h) := ev_loadP hb.field rfl hx
theorem Nl.ld1 (hb : Nl h c tw fz lr) {t : Tm} {x : Opd} (hx : x.ev t = .ptr c 1) : evOp (.load false 1 x) t h = some (.int .i64 0, h) := ev_loadP hb.field rfl hx

theorem ev_capnil {t : Tm} {x : Opd} (hx : x.ev t = .nilslice) : evOp (.cap x) t h = some (.int .i64 (0 : Nat), h) := by simp only [evOp, hx]; rfl
theorem ev_lennil {t : Tm} {x : Opd} (hx : x.ev t = .nilslice) : evOp (.len false x) t h = some (.int .i64 (0 : Nat), h) := by simp only [evOp, hx]; rfl

theorem tryGrow_nil (hb : Nl h c tw fz lr) (h0 : 0 < l) : CallA progT (.fn 87) [.ptr c 0, .int .i64 l] h fun r h' => r = .ret (.tuple [.int .i64 0, .bool false]) ∧ h' = h := by
  refine CallA_body (by rfl) ?_
  have hw : wrapA .i64 (((0 : Nat) : Int) - ((0 : Nat) : Int)) = 0 := rfl
  have hd1 : decide ((l : Int) ≤ 0) = false := by simp; omega
  (repeat (first | ((first | with_reducible apply Ev_op_of | with_reducible apply EvDn_op_of); (case hp => rfl); (case hv => first | ((with_reducible refine hb.ld ?_) <;> exact look (an hw hd1)) | ((with_reducible refine ev_capnil ?_) <;> exact look (an hw hd1)) | ((with_reducible refine ev_lennil ?_) <;> exact look (an hw hd1)) | exact dfl2 (an hw hd1))) | refine adm (an hw hd1) ?_))
  (refine ⟨rfl, _, by exact ret Bool.not_true, ?_⟩)
  exact ⟨rfl, rfl⟩

theorem len_nil (hb : Nl h c tw fz lr) : CallA progT (.fn 20) [.ptr c 0] h fun r h' => r = .ret (.int .i64 0) ∧ h' = h := by
  refine CallA_body (by rfl) ?_
  have hw : wrapA .i64 (((0 : Nat) : Int) - 0) = 0 := rfl
  (repeat (first | ((first | with_reducible apply Ev_op_of | with_reducible apply EvDn_op_of); (case hp => rfl); (case hv => first | ((with_reducible refine hb.ld ?_) <;> exact look hw) | ((with_reducible refine hb.ld1 ?_) <;> exact look hw) | ((with_reducible refine ev_lennil ?_) <;> exact look hw) | exact dfl2 hw)) | refine adm hw ?_))
  (refine ⟨rfl, _, by exact ret Bool.not_true, ?_⟩)
  exact ⟨rfl, rfl⟩

theorem ev_make64 {t : Tm} {x : Opd} (hx : x.ev t = .int .i64 (l : Nat)) (hl : l ≤ 64) : evOp (.makeSlice 5 1 1 [.int .u8 0] x (.k (.int .i64 64))) t h = some (.slice h.next 0 l (some 64) 1, h.push (.cells 5 (zerosA 64) true 1 [])) := by
  have h1 : (Opd.k (.int .i64 64)).ev t = .int .i64 64 := rfl
  simp only [evOp, hx, h1]
  rw [if_pos ⟨by omega, by omega, by decide, by decide⟩]
  have h2 : List.flatten (List.replicate (64 : Int).toNat [AV.int .u8 0]) = zerosA 64 := flat_rep 64
  rw [h2]
  simp only [newCells, alloc_push, Int.toNat_natCast]
  rfl

theorem grow_nil (hb : Nl h c tw fz lr) (h0 : 0 < l) (hl : l ≤ 64) : CallA progT (.fn 88) [.ptr c 0, .int .i64 l] h fun r h' => r = .ret (.int .i64 0) ∧ h' = (h.push (.cells 5 (zerosA 64) true 1 [])).set c (.cells tw [.slice h.next 0 l (some 64) 1, .int .i64 0, lr] true fz []) := by
  refine CallA_body (by rfl) ?_
  have hz := hb.fz1
  (repeat (first | ((first | with_reducible apply Ev_op_of | with_reducible apply EvDn_op_of); (case hp => rfl); (case hv => exact dfl2 Bool.not_true)) | refine adm Bool.not_true ?_))
  refine Ev_call (by rfl) (len_nil hb) ?_ (by rintro v h' ⟨e, _⟩; cases e)
  rintro v h' ⟨e, e4⟩
  have e5 := e4.symm
  subst e5
  cases e
  have e1 : decide ((0 : Int) = 0) = true := rfl
  have e2 : ((0 : Int) == 0) = true := rfl
  have e3 : (!((0 : Int) == 0)) = false := rfl
  (repeat (first | ((first | with_reducible apply Ev_op_of | with_reducible apply EvDn_op_of); (case hp => rfl); (case hv => first | ((with_reducible refine hb.ld ?_) <;> exact look (an e1 (an e2 e3))) | ((with_reducible refine hb.ld1 ?_) <;> exact look (an e1 (an e2 e3))) | exact dfl2 (an e1 (an e2 e3)))) | refine adm (an e1 (an e2 e3)) ?_))
  refine Ev_call (by rfl) (tryGrow_nil (l := l) hb h0) ?_ (by rintro v h' ⟨e, _⟩; cases e)
  rintro v h' ⟨e, e4⟩
  have e5 := e4.symm
  subst e5
  cases e
  have e6 : decide ((l : Int) ≤ 64) = true := by simp; omega
  have hc1 := find_push_old (o := .cells 5 (zerosA 64) true 1 []) hb.field
  have st1 : ∀ {t : Tm} {a x : Opd}, a.ev t = .ptr c 0 → x.ev t = .slice h.next 0 l (some 64) 1 → evOp (.store 1 a x) t (h.push (.cells 5 (zerosA 64) true 1 [])) = some (undefA, (h.push (.cells 5 (zerosA 64) true 1 [])).set c (.cells tw [.slice h.next 0 l (some 64) 1, .int .i64 0, lr] true fz [])) := fun ha hx => ev_storeP hc1 ha hx rfl rfl (by simp) (by omega)
  have he : eqA .slice .nilslice .nilslice = some true := rfl
  (repeat (first | ((first | with_reducible apply Ev_op_of | with_reducible apply EvDn_op_of); (case hp => rfl); (case hv => first | ((with_reducible refine hb.ld ?_) <;> exact look (an e1 (an e2 (an e3 (an e6 he))))) | ((with_reducible refine hb.ld1 ?_) <;> exact look (an e1 (an e2 (an e3 (an e6 he))))) | ((with_reducible refine ev_make64 ?_ hl) <;> exact look (an e1 (an e2 (an e3 (an e6 he))))) | ((with_reducible refine st1 ?_ ?_) <;> exact look (an e1 (an e2 (an e3 (an e6 he))))) | exact dfl2 (an e1 (an e2 (an e3 (an e6 he)))))) | refine adm (an e1 (an e2 (an e3 (an e6 he)))) ?_))
  (refine ⟨rfl, _, by exact ret Bool.not_true, ?_⟩)
  exact ⟨rfl, rfl⟩

theorem writeString_nil {s : List UInt8} (hb : Nl h c tw fz lr) (h0 : 0 < s.length) (hl : s.length ≤ 64) : CallA progT (.fn 47) [.ptr c 0, .str s] h fun r h' => r = .ret (.tuple [.int .i64 s.length, .niliface]) ∧ ∃ o', Buf h' c o' s ∧ Wrote c h none h' o' := by
  refine CallA_body (by rfl) ?_
  have hz := hb.fz1
  have hcn := find_lt hb.field
  have st2 : ∀ {t : Tm} {a x : Opd}, a.ev t = .ptr c 2 → x.ev t = .int .i8 0 → evOp (.store 1 a x) t h = some (undefA, h.set c (.cells tw [.nilslice, .int .i64 0, .int .i8 0] true fz [])) := fun ha hx => ev_storeP hb.field ha hx rfl rfl (by simp) (by omega)
  have hb2 : Nl (h.set c (.cells tw [.nilslice, .int .i64 0, .int .i8 0] true fz [])) c tw fz (.int .i8 0) := ⟨find_set_same hb.field, hz⟩
  (repeat (first | ((first | with_reducible apply Ev_op_of | with_reducible apply EvDn_op_of); (case hp => rfl); (case hv => first | ((with_reducible refine st2 ?_ ?_) <;> exact look Bool.not_true) | exact dfl2 Bool.not_true)) | refine adm Bool.not_true ?_))
  refine Ev_call (by rfl) (tryGrow_nil (l := s.length) hb2 h0) ?_ (by rintro v h' ⟨e, _⟩; cases e)
  rintro v h' ⟨e, e4⟩
  have e5 := e4.symm
  subst e5
  cases e
  (repeat (first | ((first | with_reducible apply Ev_op_of | with_reducible apply EvDn_op_of); (case hp => rfl); (case hv => exact dfl2 Bool.not_false)) | refine adm Bool.not_false ?_))
  refine Ev_call (by rfl) (grow_nil (l := s.length) hb2 h0 hl) ?_ (by rintro v h' ⟨e, _⟩; cases e)
  rintro v h4 ⟨e, eh⟩
  cases e
  have hnx : (h.set c (.cells tw [.nilslice, .int .i64 0, .int .i8 0] true fz [])).next = h.next := rfl
  rw [hnx] at eh
  have hf4 : h4.find c = some (.cells tw [.slice h.next 0 s.length (some 64) 1, .int .i64 0, .int .i8 0] true fz []) := by rw [eh]; exact find_set_same (find_push_old hb2.field)
  have hn4 : h4.find h.next = some (.cells 5 (zerosA 64) true 1 []) := by
    rw [eh, find_set_ne (find_push_old hb2.field) (by omega)]
    exact find_push_new (h := h.set c (.cells tw [.nilslice, .int .i64 0, .int .i8 0] true fz []))
  have hx4 : h4.next = h.next + 1 := by rw [eh]; rfl
  have hg4 : ∀ j, j < h.next → j ≠ c → h4.get j = h.get j := fun j hj hc => by
    have s1 : Same (fun j => j ≠ c) h h4 := by
      rw [eh]
      exact (Same.set hb.field (fun j hj => hj)).trans (Same.push.trans (Same.set (find_push_old hb2.field) (fun j hj => hj)))
    exact s1.get j hc hj
  clear eh
  have ld4 : ∀ {t : Tm} {x : Opd}, x.ev t = .ptr c 0 → evOp (.load false 1 x) t h4 = some (.slice h.next 0 s.length (some 64) 1, h4) := fun hx => ev_loadP hf4 rfl hx
  have sl4 : ∀ {t : Tm} {x lo : Opd}, x.ev t = .slice h.next 0 s.length (some 64) 1 → lo.ev t = .int .i64 0 → evOp (.sliceSl 1 x (some lo) none none) t h4 = some (.slice h.next 0 s.length (some 64) 1, h4) := fun hx hh => ev_sliceLo0 hx hh (by omega) hl
  have cp4 : ∀ {t : Tm} {d x : Opd}, d.ev t = .slice h.next 0 s.length (some 64) 1 → x.ev t = .str s → evOp (.copy 1 d x) t h4 = some (.int .i64 (s.length : Nat), h4.set h.next (.cells 5 ((zerosA 64).take 0 ++ s.map byteA ++ (zerosA 64).drop (0 + s.length)) true 1 [])) := fun hd hx =>
    ev_copyB hd hx rfl (Nat.le_refl _) (by simp only [sourceA, List.take_length]) (by simp) hn4 (by omega) (allCells_bytes s) (by simp [zerosA]; omega) h0
  (repeat (first | ((first | with_reducible apply Ev_op_of | with_reducible apply EvDn_op_of); (case hp => rfl); (case hv => first | ((with_reducible refine ld4 ?_) <;> exact look Bool.not_false) | ((with_reducible refine sl4 ?_ ?_) <;> exact look Bool.not_false) | ((with_reducible refine cp4 ?_ ?_) <;> exact look Bool.not_false) | exact dfl2 Bool.not_false)) | refine adm Bool.not_false ?_))
  (refine ⟨rfl, _, by exact ret Bool.not_true, ?_⟩)
  refine ⟨rfl, some h.next, ?_, by rw [set_next]; omega, .inr ⟨_, rfl, Nat.le_refl _⟩, fun j hj hc _ => ?_⟩
  · refine .known (k := 64) (n := s.length) (tw := tw) (fz := fz) (lr := .int .i8 0) (cs := (zerosA 64).take 0 ++ s.map byteA ++ (zerosA 64).drop s.length) ⟨?_, find_set_same hn4, by omega, hl, ?_, by omega, by omega, hz⟩ ?_ h0 hcn
    · rw [find_set_ne hn4 (by omega)]; exact hf4
    · simp [zerosA]; omega
    · rw [List.take_zero, List.nil_append, List.take_append_of_le_length (by simp), List.take_of_length_le (by simp)]
  · rw [Heap.get_set (by omega) (by omega), if_neg (by omega), hg4 j hj hc]
end

/-! The functions' program: writers, numbers' texts and their readings are what is proved of them -/
noncomputable def itoaF : List AV → Option AV
  | [.int .i64 n] => if -9223372036854775808 ≤ n ∧ n ≤ 9223372036854775807 then some (.str (Lib.itoa n)) else none
  | _ => none

/-- what strconv.Atoi hands back -/
noncomputable def atoiA (s : List UInt8) : AV := match Lib.atoiAll s with
  | .ok n => .tuple [.int .i64 n, .niliface]
  | _ => .tuple [.bot, .iface 284 .bot]
noncomputable def atoiF : List AV → Option AV
  | [.str s] => if s.length ≤ 1048576 then some (atoiA s) else none
  | _ => none

noncomputable def wsF := wrF 47 (fun s : List UInt8 => AV.str s) (fun s => s) (fun s => .tuple [.int .i64 s.length, .niliface])
noncomputable def wbF := wrF 48 byteA (fun s => [s]) (fun _ => .niliface)
noncomputable def progK : Nat → Option AFun := withSpec (withSpec (withSpec (withHSpec (withHSpec progT 47 wsF) 48 wbF) 45 itoaF) 90 atoiF) 4 (one [] (.bool true))

theorem progK_ok {T : Tb} (hm : T.P.follows .mixedOrders = true) (hpo : ProgOK T progT) (hi : SpecOK T 45 itoaF) (ha : SpecOK T 90 atoiF) (hw : SpecOK T 4 (one [] (.bool true))) : ProgOK T progK :=
  withSpec_ok (withSpec_ok (withSpec_ok (withHSpec_ok (withHSpec_ok hpo (wrF_ok hm hpo writeString_spec)) (wrF_ok hm hpo writeByte_spec)) hi) ha) hw

section
variable {h : Heap} {c : Nat} {o : Option Nat} {bs : List UInt8}

theorem awake_call : CallA progK (.fn 4) [] h fun r h' => r = .ret (.bool true) ∧ h' = h :=
  CallA_spec (by rfl) (show mapO (deepV h 12) [] = some [] from rfl) (show one [] (.bool true) [] = some (.bool true) from rfl) ⟨rfl, rfl⟩

theorem itoa_call {n : Int} (hn : isI64 n) : CallA progK (.fn 45) [.int .i64 n] h fun r h' => r = .ret (.str (Lib.itoa n)) ∧ h' = h :=
  CallA_spec (by rfl) (show mapO (deepV h 12) [.int .i64 n] = some [.int .i64 n] from rfl) (show itoaF [.int .i64 n] = some (.str (Lib.itoa n)) by simp only [itoaF]; rw [if_pos (show -9223372036854775808 ≤ n ∧ n ≤ 9223372036854775807 from hn)]) ⟨rfl, rfl⟩

theorem atoi_call {s : List UInt8} (hs : s.length ≤ 1048576) : CallA progK (.fn 90) [.str s] h fun r h' => r = .ret (atoiA s) ∧ h' = h :=
  CallA_spec (by rfl) (show mapO (deepV h 12) [.str s] = some [.str s] from rfl) (show atoiF [.str s] = some (atoiA s) by simp only [atoiF]; rw [if_pos hs]) ⟨rfl, rfl⟩

theorem ws_call {s : List UInt8} (hb : Buf h c o bs) (hl : bs.length + s.length ≤ 33554432) (hn : bs = [] → 0 < s.length ∧ s.length ≤ 64) :
    CallA progK (.fn 47) [.ptr c 0, .str s] h fun r h' => r = .ret (.tuple [.int .i64 s.length, .niliface]) ∧ ∃ o', Buf h' c o' (bs ++ s) ∧ Wrote c h o h' o' :=
  wr_ok writeString_spec (x := s) (by rfl) hb hl fun e1 e2 => by
    subst e1; subst e2
    obtain ⟨h1, h2⟩ := hn rfl
    cases hb with
    | nil hf hz => exact writeString_nil ⟨hf, hz⟩ h1 h2

theorem wb_call {x : UInt8} (hb : Buf h c o bs) (hl : bs.length + 1 ≤ 33554432) (hn : bs ≠ []) :
    CallA progK (.fn 48) [.ptr c 0, byteA x] h fun r h' => r = .ret .niliface ∧ ∃ o', Buf h' c o' (bs ++ [x]) ∧ Wrote c h o h' o' :=
  wr_ok writeByte_spec (x := x) (by rfl) hb hl fun e1 _ => absurd e1 hn
end
end Go.AM

/- WHAT THE WRITER's FUNCTIONS DO. -/
namespace Go.AM
set_option maxRecDepth 10000
set_option linter.unusedSimpArgs false

theorem take_flat {α β : Type} {f : α → List β} {l : List α} {i : Nat} (h : i < l.length) : (l.take (i + 1)).flatMap f = (l.take i).flatMap f ++ f l[i] := by
  rw [List.take_succ_eq_append_getElem h, List.flatMap_append]; simp
theorem inc_nat {i m : Nat} (h : i < m) (hm : m < 1000000000) : wrapA .i64 ((i : Int) + 1) = ((i + 1 : Nat) : Int) := by
  rw [wrap_i64 (by omega) (by omega)]; omega
theorem lt_dec {i m : Nat} (h : i < m) : decide ((i : Int) < (m : Int)) = true := by simpa using h
theorem nlt_dec {i m : Nat} (h : ¬ i < m) : decide ((i : Int) < (m : Int)) = false := by simpa using h

def inC (n : Int) : List AV := [.int .i64 n]
theorem inC_len (n : Int) : (inC n).length = 1 := rfl

theorem itoa_pos (n : Int) : 0 < (Lib.itoa n).length := by
  unfold Lib.itoa
  split
  · simp
  · exact List.length_pos_iff.2 (decDigits_ne _)

theorem Sl.load1 {h : Heap} {a v : AV} (hat : ∀ o m, o + m ≤ 1 → atA h (addA a o) m = cut [v] o m) : loadA h false 1 a = some v := by
  have := hat 0 1 (by omega)
  rw [add_zero] at this
  simp only [loadA, this]
  rfl

section
variable {h : Heap} {c : Nat} {o : Option Nat} {bs : List UInt8}

def Beside (c : Nat) (o : Option Nat) : Nat → Prop := fun j => j ≠ c ∧ o ≠ some j

theorem numbers_ok {ns : List Int} {v : AV} (hb : Buf h c o bs) (hS : Sl h (Beside c o) 1 v ns.length (ns.flatMap inC)) (hw : ∀ n ∈ ns, isI64 n) (hl : bs.length + (ns.flatMap numB).length ≤ 33554432) (hlen : ns.length < 1000) :
    CallA progK (.fn 18) [.ptr c 0, v] h fun r h' => r = .ret (.tuple []) ∧ ∃ o', Buf h' c o' (bs ++ ns.flatMap numB) ∧ Wrote c h o h' o' := by
  refine CallA_body (by rfl) ?_
  (repeat (first | ((first | with_reducible apply Ev_op_of | with_reducible apply EvDn_op_of); (case hp => rfl); (case hv => first | ((with_reducible refine ev_len ?_ hS.rd) <;> exact look Bool.not_true) | exact dfl2 Bool.not_true)) | refine adm Bool.not_true ?_))
  refine Ev_loopH (fun t h' => ∃ i o', i ≤ ns.length ∧ getT t 0 = .ptr c 0 ∧ getT t 6 = v ∧ getT t 7 = .int .i64 ns.length ∧ getT t 8 = .int .i64 (i : Nat) ∧ Buf h' c o' (bs ++ (ns.take i).flatMap numB) ∧ Wrote c h o h' o')
    (fun t _ => cntA ns.length (getT t 8)) ⟨0, o, Nat.zero_le _, by exact look Bool.not_true, by exact look Bool.not_true, by exact look Bool.not_true, (by exact look Int.natCast_zero), by simpa using hb, Wrote.refl⟩ ?_
  rintro t h1 ⟨i, o1, hi, g0, g6, g7, g8, hb1, hw1⟩
  by_cases hlt : i < ns.length
  · have hd := lt_dec hlt
    have hinc := inc_nat hlt (by omega)
    have hS1 := hS.keep hw1.same.keep
    obtain ⟨a, ha, hix, hld, hat⟩ := Sl.at_ (f := inC) (l := ns) hS1 inC_len hlt
    have hpre : ((ns.take (i + 1)).flatMap numB).length ≤ (ns.flatMap numB).length := by
      conv => rhs; rw [← List.take_append_drop (i + 1) ns]
      rw [List.flatMap_append, List.length_append]; omega
    have hstep := take_flat (f := numB) hlt
    have hlst : (numB ns[i]).length = (Lib.itoa ns[i]).length + 1 := by simp [numB]
    rw [hstep, List.length_append, hlst] at hpre
    have hld2 : loadA h1 false 1 a = some (.int .i64 ns[i]) := Sl.load1 hat
    (repeat (first | ((first | with_reducible apply Ev_op_of | with_reducible apply EvDn_op_of); (case hp => rfl); (case hv => first | ((with_reducible refine hix _ _ _ .i64 ?_ ?_) <;> exact look (an g0 (an g6 (an g7 (an g8 hd))))) | ((with_reducible refine ev_load ?_ hld2) <;> exact look (an g0 (an g6 (an g7 (an g8 hd))))) | exact dfl2 (an g0 (an g6 (an g7 (an g8 hd)))))) | refine adm (an g0 (an g6 (an g7 (an g8 hd)))) ?_))
    refine EvDn_call (P := fun v h' => v = .str (Lib.itoa ns[i]) ∧ h' = h1) (by exact cal g0) ((itoa_call (hw _ (List.getElem_mem hlt))).mono fun r h' hp => ⟨_, hp.1, rfl, hp.2⟩) ?_
    rintro v h' ⟨rfl, rfl⟩
    refine ⟨rfl, ?_⟩
    refine EvDn_call (P := fun v h2 => ∃ o2, Buf h2 c o2 (bs ++ (ns.take i).flatMap numB ++ Lib.itoa ns[i]) ∧ Wrote c h' o1 h2 o2) (by exact cal g0) ((ws_call (s := Lib.itoa ns[i]) hb1 (by rw [List.length_append]; omega) (fun _ => ⟨itoa_pos _, by have := itoa_len (hw _ (List.getElem_mem hlt)); omega⟩)).mono fun r h2 hp => ⟨_, hp.1, hp.2⟩) ?_
    rintro v2 h2 ⟨o2, hb2, hw2⟩
    refine ⟨rfl, ?_⟩
    (repeat (first | ((first | with_reducible apply Ev_op_of | with_reducible apply EvDn_op_of); (case hp => rfl); (case hv => exact dfl2 (an g0 g8))) | refine adm (an g0 g8) ?_))
    refine Ev_call (P := fun r h3 => r = .ret .niliface ∧ ∃ o3, Buf h3 c o3 (bs ++ (ns.take i).flatMap numB ++ Lib.itoa ns[i] ++ [59]) ∧ Wrote c h2 o2 h3 o3) (by exact cal g0) (wb_call (x := 59) hb2 (by simp only [List.length_append]; omega) (by have := itoa_pos ns[i]; intro e; have := congrArg List.length e; simp only [List.length_append, List.length_nil] at this; omega)) ?_ (by rintro v h' ⟨e, _⟩; cases e)
    rintro v3 h3 ⟨e3, o3, hb3, hw3⟩
    cases e3
    (repeat (first | ((first | with_reducible apply Ev_op_of | with_reducible apply EvDn_op_of); (case hp => rfl); (case hv => exact dfl2 (an g8 hinc))) | refine adm (an g8 hinc) ?_))
    refine ⟨rfl, ⟨i + 1, o3, hlt, by exact look g0, by exact look g6, by exact look g7, by exact look Bool.not_true, ?_, (hw1.trans hw2).trans hw3⟩, by simp (decide := true) only [putD, getT_setT, if_true, g8, cntA_int, if_false]; omega⟩
    rw [hstep]; simpa [numB, List.append_assoc] using hb3
  · have hd := nlt_dec hlt
    have hin : i = ns.length := by omega
    (repeat (first | ((first | with_reducible apply Ev_op_of | with_reducible apply EvDn_op_of); (case hp => rfl); (case hv => exact dfl2 (an g0 (an g6 (an g7 (an g8 hd)))))) | refine adm (an g0 (an g6 (an g7 (an g8 hd)))) ?_))
    (refine ⟨rfl, _, by exact ret Bool.not_true, ?_⟩)
    refine ⟨rfl, o1, ?_, hw1⟩
    rw [hin, List.take_length] at hb1; exact hb1
end
end Go.AM

/- WHAT THE WRITER's FUNCTIONS DO, 2: values, lists of them, frames. -/
namespace Go.AM
set_option maxRecDepth 10000
set_option linter.unusedSimpArgs false

theorem Buf.lt {h : Heap} {c : Nat} {o : Option Nat} {bs : List UInt8} (hb : Buf h c o bs) : c < h.next ∧ ∀ b, o = some b → b < h.next := by
  cases hb with
  | nil hf _ => exact ⟨find_lt hf, fun b e => by cases e⟩
  | known hb _ _ _ => exact ⟨find_lt hb.field, fun b e => by cases e; exact find_lt hb.blk⟩
  | unk hu _ => exact ⟨find_lt hu.field, fun b e => by cases e; exact find_lt hu.blk⟩

theorem Buf.push {h : Heap} {c : Nat} {o : Option Nat} {bs : List UInt8} {x : AObj} (hb : Buf h c o bs) : Buf (h.push x) c o bs := hb.same Same.push

theorem Wrote.push {h : Heap} {c : Nat} {o : Option Nat} {x : AObj} : Wrote c h o (h.push x) o := ⟨by rw [push_next]; omega, .inl rfl, fun j hj _ _ => (Same.push (S := fun _ => True)).get j trivial hj⟩

theorem Beside.new {h : Heap} {c : Nat} {o : Option Nat} {bs : List UInt8} (hb : Buf h c o bs) {j : Nat} (hj : h.next ≤ j) : Beside c o j := by
  obtain ⟨h1, h2⟩ := hb.lt
  exact ⟨by omega, fun e => by have := h2 j e; omega⟩

theorem Sl.fresh {h : Heap} {S : Nat → Prop} {ty e n : Nat} {cs : List AV} {cap : Option Nat} (hS : S h.next) (hl : cs.length = n * e) (hc : ∀ k, cap = some k → n ≤ k) : Sl (h.push (.cells ty cs true 1 [])) S e (.slice h.next 0 n cap e) n cs := by
  refine ⟨⟨rfl, hl, by simp, .inr ⟨rfl, ?_⟩⟩, hS, rfl, hc, cs, cellsAt_of find_push_new⟩
  simp only [readAt, find_push_new]
  rw [cut_eq (by omega), List.drop_zero, List.take_of_length_le (by omega)]

section
variable {h : Heap} {c : Nat} {o : Option Nat} {bs : List UInt8} {t : Tm}

theorem ev_b1 {ty : Nat} {x0 : Opd} {n0 : Int} (h0 : x0.ev t = .int .i64 n0) : evOp (.buildSlice ty [.int .i64 0] 1 1 [(0, x0)]) t h = some (.slice h.next 0 1 (some 1) 1, h.push (.cells ty (([n0] : List Int).flatMap inC) true 1 [])) := by
  simp only [evOp, evPartsS, h0]; rfl
theorem ev_b2 {ty : Nat} {x0 x1 : Opd} {n0 n1 : Int} (h0 : x0.ev t = .int .i64 n0) (h1 : x1.ev t = .int .i64 n1) : evOp (.buildSlice ty [.int .i64 0, .int .i64 0] 1 2 [(0, x0), (1, x1)]) t h = some (.slice h.next 0 2 (some 2) 1, h.push (.cells ty (([n0, n1] : List Int).flatMap inC) true 1 [])) := by
  simp only [evOp, evPartsS, h0, h1]; rfl
theorem ev_b6 {ty : Nat} {x0 x1 x2 x3 x4 x5 : Opd} {n0 n1 n2 n3 n4 n5 : Int} (h0 : x0.ev t = .int .i64 n0) (h1 : x1.ev t = .int .i64 n1) (h2 : x2.ev t = .int .i64 n2) (h3 : x3.ev t = .int .i64 n3) (h4 : x4.ev t = .int .i64 n4) (h5 : x5.ev t = .int .i64 n5) :
    evOp (.buildSlice ty [.int .i64 0, .int .i64 0, .int .i64 0, .int .i64 0, .int .i64 0, .int .i64 0] 1 6 [(0, x0), (1, x1), (2, x2), (3, x3), (4, x4), (5, x5)]) t h = some (.slice h.next 0 6 (some 6) 1, h.push (.cells ty (([n0, n1, n2, n3, n4, n5] : List Int).flatMap inC) true 1 [])) := by
  simp only [evOp, evPartsS, h0, h1, h2, h3, h4, h5]; rfl

theorem ev_lenstr {x : Opd} {s : List UInt8} (hx : x.ev t = .str s) : evOp (.len true x) t h = some (.int .i64 (s.length : Nat), h) := by simp only [evOp, hx]; rfl

theorem ev_boxSV {x : Opd} {v : SV} (hx : x.ev t = .agg (svC v)) : evOp (.box 61 x) t h = some (.ptr h.next 0, h.push (.cells 61 (svC v) true 1 [])) := by simp only [evOp, hx]; rfl

/-- a struct's fields, each from its place -/
theorem value_ok {v : SV} (hb : Buf h c o bs) (hw : v.wf) (hl : bs.length + (valB v).length ≤ 33554432) :
    CallA progK (.fn 49) [.ptr c 0, .agg (svC v)] h fun r h' => r = .ret (.tuple []) ∧ ∃ o', Buf h' c o' (bs ++ valB v) ∧ Wrote c h o h' o' := by
  refine CallA_body (by rfl) ?_
  obtain ⟨w1, w2, w3, w4, w5, w6⟩ := hw
  have hf := find_push_new (h := h) (o := .cells 61 (svC v) true 1 [])
  have hb1 : Buf (h.push (.cells 61 (svC v) true 1 [])) c o bs := hb.push
  let ns : List Int := [v.K, v.N, v.M, v.VK, v.VN, (v.T.length : Nat)]
  have hb2 : Buf ((h.push (.cells 61 (svC v) true 1 [])).push (.cells 3 (ns.flatMap inC) true 1 [])) c o bs := hb1.push
  have hnx : (h.push (.cells 61 (svC v) true 1 [])).next = h.next + 1 := rfl
  have hS : Sl ((h.push (.cells 61 (svC v) true 1 [])).push (.cells 3 (ns.flatMap inC) true 1 [])) (Beside c o) 1 (.slice (h.next + 1) 0 6 (some 6) 1) 6 (ns.flatMap inC) := Sl.fresh (Beside.new hb (by rw [hnx]; omega)) rfl (by intro k hk; cases hk; omega)
  have hsum : (valB v).length = (ns.flatMap numB).length + v.T.length := by
    simp only [valB, ns, List.flatMap_cons, List.flatMap_nil, List.append_nil, List.length_append]; omega
  (repeat (first | ((first | with_reducible apply Ev_op_of | with_reducible apply EvDn_op_of); (case hp => rfl); (case hv => first | ((with_reducible refine ev_boxSV (v := v) ?_) <;> exact look hnx) | ((with_reducible refine ev_loadP (c := h.next) (o := 0) hf rfl ?_) <;> exact look hnx) | ((with_reducible refine ev_loadP (c := h.next) (o := 1) hf rfl ?_) <;> exact look hnx) | ((with_reducible refine ev_loadP (c := h.next) (o := 2) hf rfl ?_) <;> exact look hnx) | ((with_reducible refine ev_loadP (c := h.next) (o := 3) hf rfl ?_) <;> exact look hnx) | ((with_reducible refine ev_loadP (c := h.next) (o := 4) hf rfl ?_) <;> exact look hnx) | ((with_reducible refine ev_loadP (c := h.next) (o := 5) hf rfl ?_) <;> exact look hnx) | ((with_reducible refine ev_lenstr (s := v.T) ?_) <;> exact look hnx) | ((with_reducible refine ev_b6 (n0 := v.K) (n1 := v.N) (n2 := v.M) (n3 := v.VK) (n4 := v.VN) (n5 := (v.T.length : Nat)) ?_ ?_ ?_ ?_ ?_ ?_) <;> exact look hnx) | exact dfl2 hnx)) | refine adm hnx ?_))
  refine Ev_call (by exact cal hnx) (numbers_ok (ns := ns) hb2 hS (by
    intro n hn
    simp only [ns, List.mem_cons, List.not_mem_nil, or_false] at hn
    rcases hn with rfl | rfl | rfl | rfl | rfl | rfl
    · exact w1
    · exact w2
    · exact w3
    · exact w4
    · exact w5
    · unfold isI64; omega) (by omega) (by simp [ns])) ?_ (by rintro v h' ⟨e, _⟩; cases e)
  rintro r h3 ⟨e, o3, hb3, hw3⟩
  cases e
  have hf3 : h3.find h.next = some (.cells 61 (svC v) true 1 []) := hw3.same.find (S := Beside c o) (Beside.new hb (Nat.le_refl _)) (find_push_old hf)
  (repeat (first | ((first | with_reducible apply Ev_op_of | with_reducible apply EvDn_op_of); (case hp => rfl); (case hv => first | ((with_reducible refine ev_loadP (c := h.next) (o := 5) hf3 rfl ?_) <;> exact look Bool.not_true) | exact dfl2 Bool.not_true)) | refine adm Bool.not_true ?_))
  refine EvDn_call (P := fun v2 h4 => ∃ o4, Buf h4 c o4 (bs ++ ns.flatMap numB ++ v.T) ∧ Wrote c h3 o3 h4 o4) (by exact cal Bool.not_true) ((ws_call (s := v.T) hb3 (by rw [List.length_append]; omega) (fun e => ?_)).mono fun r h2 hp => ⟨_, hp.1, hp.2⟩) ?_
  · exfalso
    have := congrArg List.length e
    have hp := numB_pos v.K
    simp only [ns, List.flatMap_cons, List.length_append, List.length_nil] at this; omega
  rintro v4 h4 ⟨o4, hb4, hw4⟩
  refine ⟨rfl, ?_⟩
  (repeat (first | ((first | with_reducible apply Ev_op_of | with_reducible apply EvDn_op_of); (case hp => rfl); (case hv => exact dfl2 Bool.not_true)) | refine adm Bool.not_true ?_))
  (refine ⟨rfl, _, by exact ret Bool.not_true, ?_⟩)
  refine ⟨rfl, o4, ?_, ((Wrote.push.trans Wrote.push).trans hw3).trans hw4⟩
  simpa [valB, ns, List.append_assoc] using hb4
end
end Go.AM

/- WHAT THE WRITER's FUNCTIONS DO, 3: lists of values, frames. -/
namespace Go.AM
set_option maxRecDepth 10000
set_option linter.unusedSimpArgs false

section
variable {h h' : Heap} {c : Nat} {o : Option Nat} {bs : List UInt8} {t : Tm}

theorem ev_alloc {ty : Nat} {zs : List AV} : evOp (.alloc ty zs) t h = some (.ptr h.next 0, h.push (.cells ty zs true 1 [])) := rfl

theorem ev_storeN {b n ty : Nat} {zs cs : List AV} {a x : Opd} (hf : h.find b = some (.cells ty zs true 1 [])) (ha : a.ev t = .ptr b 0) (hx : x.ev t = .agg cs) (hl : cs.length = n) (hz : zs.length = n) (hc : allCells cs = true) (hn : 0 < n) :
    evOp (.store n a x) t h = some (undefA, h.set b (.cells ty cs true 1 [])) := by
  simp only [evOp, ha, hx, AV.cells, hl, if_true]
  rw [writeAt_eq hf (by omega) hc (by omega) (by intro e; subst e; simp at hl; omega)]
  simp only [List.take_zero, List.nil_append, Nat.zero_add, hl, ← hz, List.drop_length, List.append_nil]

theorem ev_loadA {b off n ty fz : Nat} {own : Bool} {an : List (Nat × Nat)} {cs r : List AV} {x : Opd} (hf : h.find b = some (.cells ty cs own fz an)) (hl : off + n ≤ cs.length) (hr : (cs.drop off).take n = r) (hx : x.ev t = .ptr b off) : evOp (.load true n x) t h = some (.agg r, h) := by
  simp only [evOp, hx, readAt, hf]
  rw [cut_eq hl, hr]; rfl

theorem Same.pushset {x y : AObj} : Same (fun j => j < h.next) h ((h.push x).set h.next y) := Same.push.trans (Same.set find_push_new (fun j hj => by omega))

theorem Wrote.of_same (hs : Same (fun j => j < h.next) h h') : Wrote c h o h' o := ⟨hs.next, .inl rfl, fun j hj _ _ => hs.get j hj hj⟩

theorem Buf.of_same (hb : Buf h c o bs) (hs : Same (fun j => j < h.next) h h') : Buf h' c o bs := hb.same (hs.sub fun j hj => by
  obtain ⟨h1, h2⟩ := hb.lt
  rcases hj with rfl | hj
  · exact h1
  · exact h2 j hj)

theorem flat_le {α : Type} {g : α → List UInt8} {l : List α} {i : Nat} (hi : i < l.length) : ((l.take i).flatMap g).length + (g l[i]).length ≤ (l.flatMap g).length := by
  conv => rhs; rw [← List.take_append_drop (i + 1) l]
  rw [List.flatMap_append, List.length_append, take_flat hi, List.length_append]; omega

theorem written_ok {v : AV} {l : List SV} (hb : Buf h c o bs) (hv : RdVals h (fun j => j < c) v l) (hw : ∀ x ∈ l, x.wf) (hl : bs.length + (valsB l).length ≤ 33554432) (hlen : l.length ≤ 9999999) :
    CallA progK (.fn 50) [.ptr c 0, v, .func 49 [.ptr c 0] []] h fun r h' => r = .ret (.tuple []) ∧ ∃ o', Buf h' c o' (bs ++ valsB l) ∧ Wrote c h o h' o' := by
  refine CallA_body (by rfl) ?_
  have hvr : Reads h 6 v l.length (l.flatMap svC) := Sl.rd hv
  have hb1 : Buf (h.push (.cells 3 (([(l.length : Nat)] : List Int).flatMap inC) true 1 [])) c o bs := hb.push
  have hS : Sl (h.push (.cells 3 (([(l.length : Nat)] : List Int).flatMap inC) true 1 [])) (Beside c o) 1 (.slice h.next 0 1 (some 1) 1) 1 (([(l.length : Nat)] : List Int).flatMap inC) := Sl.fresh (Beside.new hb (Nat.le_refl _)) rfl (by intro k hk; cases hk; omega)
  have hsum : (valsB l).length = (numB (l.length : Nat)).length + (l.flatMap valB).length := by simp [valsB]
  (repeat (first | ((first | with_reducible apply Ev_op_of | with_reducible apply EvDn_op_of); (case hp => rfl); (case hv => first | ((with_reducible refine ev_len ?_ hvr) <;> exact look Bool.not_true) | ((with_reducible refine ev_b1 (n0 := (l.length : Nat)) ?_) <;> exact look Bool.not_true) | exact dfl2 Bool.not_true)) | refine adm Bool.not_true ?_))
  refine Ev_call (by exact cal Bool.not_true) (numbers_ok (ns := [(l.length : Nat)]) hb1 hS (by
    intro n hn
    simp only [List.mem_cons, List.not_mem_nil, or_false] at hn
    subst hn
    unfold isI64; omega) (by simp only [List.flatMap_cons, List.flatMap_nil, List.append_nil]; omega) (by simp)) ?_ (by rintro v h' ⟨e, _⟩; cases e)
  rintro r h2 ⟨e, o2, hb2, hw2⟩
  cases e
  have hW2 := Wrote.push.trans hw2
  simp only [List.flatMap_cons, List.flatMap_nil, List.append_nil] at hb2
  (repeat (first | ((first | with_reducible apply Ev_op_of | with_reducible apply EvDn_op_of); (case hp => rfl); (case hv => first | ((with_reducible refine ev_len ?_ hvr) <;> exact look Bool.not_true) | exact dfl2 Bool.not_true)) | refine adm Bool.not_true ?_))
  refine Ev_loopH (fun t h' => ∃ i o', i ≤ l.length ∧ getT t 0 = .ptr c 0 ∧ getT t 2 = .func 49 [.ptr c 0] [] ∧ getT t 13 = v ∧ getT t 14 = .int .i64 l.length ∧ getT t 15 = .int .i64 (i : Nat) ∧ Buf h' c o' (bs ++ numB (l.length : Nat) ++ (l.take i).flatMap valB) ∧ Wrote c h o h' o')
    (fun t _ => cntA l.length (getT t 15)) ⟨0, o2, Nat.zero_le _, by exact look Bool.not_true, by exact look Bool.not_true, by exact look Bool.not_true, by exact look Bool.not_true, (by exact look Int.natCast_zero), by simpa using hb2, hW2⟩ ?_
  rintro t h1 ⟨i, o1, hi, g0, g2, g13, g14, g15, hb1, hw1⟩
  by_cases hlt : i < l.length
  · have hd := lt_dec hlt
    have hinc := inc_nat hlt (by omega)
    have hv1 : RdVals h1 (fun j => j < c) v l := hv.keep (hw1.below hb).keep
    obtain ⟨a, ha, hix, hld, hat⟩ := Sl.at_ (f := svC) (l := l) hv1 svC_len hlt
    have hpre := flat_le (g := valB) hlt
    have hf1 := find_push_new (h := h1) (o := .cells 61 [.int .i64 0, .int .i64 0, .int .i64 0, .int .i64 0, .int .i64 0, .str []] true 1 [])
    have hs1 : Same (fun j => j < h1.next) h1 ((h1.push (.cells 61 [.int .i64 0, .int .i64 0, .int .i64 0, .int .i64 0, .int .i64 0, .str []] true 1 [])).set h1.next (.cells 61 (svC l[i]) true 1 [])) := Same.pushset
    have hf2 : ((h1.push (.cells 61 [.int .i64 0, .int .i64 0, .int .i64 0, .int .i64 0, .int .i64 0, .str []] true 1 [])).set h1.next (.cells 61 (svC l[i]) true 1 [])).find h1.next = _ := find_set_same hf1
    have hsl : (svC l[i]).length = 6 := rfl
    have hsl2 : 0 + 6 ≤ (svC l[i]).length := by rw [hsl]; omega
    have hac : allCells (svC l[i]) = true := rfl
    (repeat (first | ((first | with_reducible apply Ev_op_of | with_reducible apply EvDn_op_of); (case hp => rfl); (case hv => first | ((with_reducible refine hix _ _ _ .i64 ?_ ?_) <;> exact look (an g0 (an g2 (an g13 (an g14 (an g15 hd)))))) | ((with_reducible refine ev_load ?_ hld) <;> exact look (an g0 (an g2 (an g13 (an g14 (an g15 hd)))))) | ((with_reducible refine ev_alloc) <;> exact look (an g0 (an g2 (an g13 (an g14 (an g15 hd)))))) | ((with_reducible refine ev_storeN hf1 ?_ ?_ hsl rfl hac (by decide)) <;> exact look (an g0 (an g2 (an g13 (an g14 (an g15 hd)))))) | ((with_reducible refine ev_loadA hf2 hsl2 rfl ?_) <;> exact look (an g0 (an g2 (an g13 (an g14 (an g15 hd)))))) | exact dfl2 (an g0 (an g2 (an g13 (an g14 (an g15 hd))))))) | refine adm (an g0 (an g2 (an g13 (an g14 (an g15 hd))))) ?_))
    refine Ev_call (by exact cal g2) (value_ok (v := l[i]) (hb1.of_same hs1) (hw _ (List.getElem_mem hlt)) (by simp only [List.length_append]; omega)) ?_ (by rintro v h' ⟨e, _⟩; cases e)
    rintro r h3 ⟨e, o3, hb3, hw3⟩
    cases e
    (repeat (first | ((first | with_reducible apply Ev_op_of | with_reducible apply EvDn_op_of); (case hp => rfl); (case hv => exact dfl2 (an g15 hinc))) | refine adm (an g15 hinc) ?_))
    refine ⟨rfl, ⟨i + 1, o3, hlt, by exact look g0, by exact look g2, by exact look g13, by exact look g14, by exact look Bool.not_true, ?_, (hw1.trans (Wrote.of_same hs1)).trans hw3⟩, by simp (decide := true) only [putD, getT_setT, if_true, g15, cntA_int, if_false]; omega⟩
    rw [take_flat hlt]; simpa [List.append_assoc] using hb3
  · have hd := nlt_dec hlt
    have hin : i = l.length := by omega
    (repeat (first | ((first | with_reducible apply Ev_op_of | with_reducible apply EvDn_op_of); (case hp => rfl); (case hv => exact dfl2 (an g0 (an g13 (an g14 (an g15 hd)))))) | refine adm (an g0 (an g13 (an g14 (an g15 hd)))) ?_))
    (refine ⟨rfl, _, by exact ret Bool.not_true, ?_⟩)
    refine ⟨rfl, o1, ?_, hw1⟩
    rw [hin, List.take_length] at hb1
    simpa [valsB, List.append_assoc] using hb1

theorem cell_of_reads {e n : Nat} {v : AV} {cs : List AV} (hr : Reads h e v n cs) : v.isCell = true := by
  have := hr.1
  cases v <;> simp only [lenA, reduceCtorEq] at this <;> rfl

theorem frC_cells {S : Nat → Prop} {p : FP} (hp : FrOK h S p) : allCells (frC p) = true := by
  have h1 := cell_of_reads (Sl.rd hp.1)
  have h2 := cell_of_reads (Sl.rd hp.2)
  simp only [frC, svC, List.cons_append, List.nil_append, allCells, h1, h2]; rfl

theorem ev_boxFr {S : Nat → Prop} {x : Opd} {p : FP} (hp : FrOK h S p) (hx : x.ev t = .agg (frC p)) : evOp (.box 64 x) t h = some (.ptr h.next 0, h.push (.cells 64 (frC p) true 1 [])) := by
  simp only [evOp, hx, AV.cells, frC_cells hp, if_true]; rfl

theorem frame_ok {p : FP} (hb : Buf h c o bs) (hp : FrOK h (fun j => j < c) p) (hw : p.1.wf) (hl : bs.length + (frB p.1).length ≤ 33554432) (hv1 : p.1.vars.length ≤ 9999999) (hv2 : p.1.stack.length ≤ 9999999) :
    CallA progK (.fn 19) [.ptr c 0, .agg (frC p)] h fun r h' => r = .ret (.tuple []) ∧ ∃ o', Buf h' c o' (bs ++ frB p.1) ∧ Wrote c h o h' o' := by
  refine CallA_body (by rfl) ?_
  obtain ⟨w1, w2, w3, w4, w5, w6, _, _, w9, w10⟩ := hw
  have hf := find_push_new (h := h) (o := .cells 64 (frC p) true 1 [])
  have hW1 : Wrote c h o (h.push (.cells 64 (frC p) true 1 [])) o := Wrote.push
  have hb1 : Buf (h.push (.cells 64 (frC p) true 1 [])) c o bs := hb.push
  have hnx : (h.push (.cells 64 (frC p) true 1 [])).next = h.next + 1 := rfl
  have hbe : Beside c o h.next := Beside.new hb (Nat.le_refl _)
  let ns : List Int := [p.1.code, p.1.pc]
  let ms : List Int := [p.1.up, p.1.act]
  have hb2 : Buf ((h.push (.cells 64 (frC p) true 1 [])).push (.cells 3 (ns.flatMap inC) true 1 [])) c o bs := hb1.push
  have hS : Sl ((h.push (.cells 64 (frC p) true 1 [])).push (.cells 3 (ns.flatMap inC) true 1 [])) (Beside c o) 1 (.slice (h.next + 1) 0 2 (some 2) 1) 2 (ns.flatMap inC) := Sl.fresh (Beside.new hb (by rw [hnx]; omega)) rfl (by intro k hk; cases hk; omega)
  have hsum : (frB p.1).length = (ns.flatMap numB).length + (valB p.1.self).length + (valB p.1.holder).length + (valsB p.1.vars).length + (valsB p.1.stack).length + (ms.flatMap numB).length := by
    simp only [frB, ns, ms, List.flatMap_cons, List.flatMap_nil, List.append_nil, List.length_append]; omega
  (repeat (first | ((first | with_reducible apply Ev_op_of | with_reducible apply EvDn_op_of); (case hp => rfl); (case hv => first | ((with_reducible refine ev_boxFr hp ?_) <;> exact look hnx) | ((with_reducible refine ev_loadP (c := h.next) (o := 0) hf rfl ?_) <;> exact look hnx) | ((with_reducible refine ev_loadP (c := h.next) (o := 1) hf rfl ?_) <;> exact look hnx) | ((with_reducible refine ev_b2 (n0 := p.1.code) (n1 := p.1.pc) ?_ ?_) <;> exact look hnx) | exact dfl2 hnx)) | refine adm hnx ?_))
  refine Ev_call (by exact cal hnx) (numbers_ok (ns := ns) hb2 hS (by
    intro n hn
    simp only [ns, List.mem_cons, List.not_mem_nil, or_false] at hn
    rcases hn with rfl | rfl
    · exact w1
    · exact w2) (by omega) (by simp [ns])) ?_ (by rintro v h' ⟨e, _⟩; cases e)
  rintro r h3 ⟨e, o3, hb3, hw3⟩
  cases e
  have hW3 := (hW1.trans Wrote.push).trans hw3
  have hX3 := (Wrote.push (c := c) (o := o)).trans hw3
  have hf3 := hX3.same.find (S := Beside c o) hbe hf
  have hl1 : 2 + 6 ≤ (frC p).length := by rw [frC_len]; omega
  have hl2 : 8 + 6 ≤ (frC p).length := by rw [frC_len]; omega
  have hr1 : ((frC p).drop 2).take 6 = svC p.1.self := rfl
  have hr2 : ((frC p).drop 8).take 6 = svC p.1.holder := rfl
  (repeat (first | ((first | with_reducible apply Ev_op_of | with_reducible apply EvDn_op_of); (case hp => rfl); (case hv => first | ((with_reducible refine ev_loadA hf3 hl1 hr1 ?_) <;> exact look Bool.not_true) | exact dfl2 Bool.not_true)) | refine adm Bool.not_true ?_))
  refine Ev_call (by exact cal Bool.not_true) (value_ok (v := p.1.self) hb3 w3 (by simp only [List.length_append]; omega)) ?_ (by rintro v h' ⟨e, _⟩; cases e)
  rintro r h4 ⟨e, o4, hb4, hw4⟩
  cases e
  have hX4 := hX3.trans hw4
  have hf4 := hX4.same.find (S := Beside c o) hbe hf
  (repeat (first | ((first | with_reducible apply Ev_op_of | with_reducible apply EvDn_op_of); (case hp => rfl); (case hv => first | ((with_reducible refine ev_loadA hf4 hl2 hr2 ?_) <;> exact look Bool.not_true) | exact dfl2 Bool.not_true)) | refine adm Bool.not_true ?_))
  refine Ev_call (by exact cal Bool.not_true) (value_ok (v := p.1.holder) hb4 w4 (by simp only [List.length_append]; omega)) ?_ (by rintro v h' ⟨e, _⟩; cases e)
  rintro r h5 ⟨e, o5, hb5, hw5⟩
  cases e
  have hX5 := hX4.trans hw5
  have hf5 := hX5.same.find (S := Beside c o) hbe hf
  have hW5 := (hW3.trans hw4).trans hw5
  have hp5 := hp.keep (hW5.below hb).keep
  (repeat (first | ((first | with_reducible apply Ev_op_of | with_reducible apply EvDn_op_of); (case hp => rfl); (case hv => first | ((with_reducible refine ev_loadP (c := h.next) (o := 14) hf5 rfl ?_) <;> exact look Bool.not_true) | exact dfl2 Bool.not_true)) | refine adm Bool.not_true ?_))
  refine Ev_call (by exact cal Bool.not_true) (written_ok hb5 hp5.1 w5 (by simp only [List.length_append]; omega) hv1) ?_ (by rintro v h' ⟨e, _⟩; cases e)
  rintro r h6 ⟨e, o6, hb6, hw6⟩
  cases e
  have hX6 := hX5.trans hw6
  have hf6 := hX6.same.find (S := Beside c o) hbe hf
  have hp6 := hp5.keep (hw6.below hb5).keep
  (repeat (first | ((first | with_reducible apply Ev_op_of | with_reducible apply EvDn_op_of); (case hp => rfl); (case hv => first | ((with_reducible refine ev_loadP (c := h.next) (o := 15) hf6 rfl ?_) <;> exact look Bool.not_true) | exact dfl2 Bool.not_true)) | refine adm Bool.not_true ?_))
  refine Ev_call (by exact cal Bool.not_true) (written_ok hb6 hp6.2 w6 (by simp only [List.length_append]; omega) hv2) ?_ (by rintro v h' ⟨e, _⟩; cases e)
  rintro r h7 ⟨e, o7, hb7, hw7⟩
  cases e
  have hX7 := hX6.trans hw7
  have hf7 := hX7.same.find (S := Beside c o) hbe hf
  (repeat (first | ((first | with_reducible apply Ev_op_of | with_reducible apply EvDn_op_of); (case hp => rfl); (case hv => first | ((with_reducible refine ev_loadP (c := h.next) (o := 16) hf7 rfl ?_) <;> exact look Bool.not_true) | ((with_reducible refine ev_loadP (c := h.next) (o := 17) hf7 rfl ?_) <;> exact look Bool.not_true) | ((with_reducible refine ev_b2 (n0 := p.1.up) (n1 := p.1.act) ?_ ?_) <;> exact look Bool.not_true) | exact dfl2 Bool.not_true)) | refine adm Bool.not_true ?_))
  have hb8 : Buf (h7.push (.cells 3 (ms.flatMap inC) true 1 [])) c o7 _ := hb7.push
  have hS8 : Sl (h7.push (.cells 3 (ms.flatMap inC) true 1 [])) (Beside c o7) 1 (.slice h7.next 0 2 (some 2) 1) 2 (ms.flatMap inC) := Sl.fresh (Beside.new hb7 (Nat.le_refl _)) rfl (by intro k hk; cases hk; omega)
  refine Ev_call (by exact cal Bool.not_true) (numbers_ok (ns := ms) hb8 hS8 (by
    intro n hn
    simp only [ms, List.mem_cons, List.not_mem_nil, or_false] at hn
    rcases hn with rfl | rfl
    · exact w9
    · exact w10) (by simp only [List.length_append]; omega) (by simp [ms])) ?_ (by rintro v h' ⟨e, _⟩; cases e)
  rintro r h9 ⟨e, o9, hb9, hw9⟩
  cases e
  (repeat (first | ((first | with_reducible apply Ev_op_of | with_reducible apply EvDn_op_of); (case hp => rfl); (case hv => exact dfl2 Bool.not_true)) | refine adm Bool.not_true ?_))
  (refine ⟨rfl, _, by exact ret Bool.not_true, ?_⟩)
  refine ⟨rfl, o9, ?_, ((hW5.trans hw6).trans hw7).trans (Wrote.push.trans hw9)⟩
  simpa [frB, ns, ms, List.append_assoc] using hb9
end
end Go.AM
