/- WHAT THE ARGUMENTS OF ScopeKept READ AS. -/
import Derived.Test.YtlpnnoojgbhfaaaGreatDoorMc
import Derived.Test.YtlpnnoojgbhfaaaGreatDoorSf
import Derived.Test.YtlpnnoojgbhfaaaGreatDoorK
import Derived.Test.YtlpnnoojgbhfaaaGreatDoorChecked
import Derived.KernelRfl
set_option linter.all false
namespace Go.AM
open Go.ChangeShapes Go.WideShapes Go.Proofs

theorem c3 : Tryz.prog.cellsOf 3 = 1 := by kernel_rfl
theorem c5 : Tryz.prog.cellsOf 5 = 1 := by kernel_rfl
theorem c9 : Tryz.prog.cellsOf 9 = 1 := by kernel_rfl
theorem c59 : Tryz.prog.cellsOf 59 = 1 + (1 + (1 + 0)) := by kernel_rfl
theorem c61 : Tryz.prog.cellsOf 61 = 1 + (1 + (1 + ((1 + (1 + (1 + 0))) + 0))) := by kernel_rfl
theorem c62 : Tryz.prog.cellsOf 62 = 1 := by kernel_rfl
theorem c64 : Tryz.prog.cellsOf 64 = 1 + (1 + (6 + (6 + (1 + (1 + (1 + (1 + 0))))))) := by kernel_rfl
theorem c32 : Tryz.prog.cellsOf 32 = 1 := by kernel_rfl
theorem c22 : Tryz.prog.cellsOf 22 = 1 := by kernel_rfl
theorem c23 : Tryz.prog.cellsOf 23 = 1 := by kernel_rfl

theorem isI64_of {n : Int} (h : intWf .i64 n) : isI64 n := by
  unfold intWf at h
  have h1 : (IntKind.i64.min) = -9223372036854775808 := rfl
  have h2 : (IntKind.i64.max) = 9223372036854775807 := rfl
  simp only [Lit.wf, h1, h2, Bool.and_eq_true, decide_eq_true_eq] at h
  exact h

def SV.wfI (v : SV) : Prop := isI64 v.K ∧ isI64 v.N ∧ isI64 v.M ∧ isI64 v.VK ∧ isI64 v.VN
def FPw (p : FP) : Prop := isI64 p.1.code ∧ isI64 p.1.pc ∧ p.1.self.wfI ∧ p.1.holder.wfI ∧ SlWf svC SV.wfI (p.2.1, p.1.vars) ∧ SlWf svC SV.wfI (p.2.2, p.1.stack) ∧ isI64 p.1.up ∧ isI64 p.1.act

section
variable {H : Type} {enc : TypeId × Value → H} {P : Program} {w : World} {base : Nat} {spare : Nat → Bool}

theorem Rd.conv2 {t : TypeId} {α β : Type} {n : Nat} {cells : α → List AV} {wf : α → Prop} {size : α → Nat} {cells' : β → List AV} {wf' : β → Prop} {size' : β → Nat} (hr : Rd enc P w base spare t n cells wf size)
    (g : α → β) (hc : ∀ a, wf a → cells' (g a) = cells a) (hw : ∀ a, wf a → wf' (g a)) (hs : ∀ a, size' (g a) ≤ size a) (hl : ∀ b, (cells' b).length = n) : Rd enc P w base spare t n cells' wf' size' :=
  ⟨hr.pos, hr.sz, hl, fun h => let ⟨a, h1, h2, h3⟩ := hr.rd h; ⟨g a, by rw [hc a h2]; exact h1, hw a h2, Nat.le_trans (hs a) h3⟩⟩

theorem rd61 : Rd enc Tryz.prog w base spare 61 6 svC SV.wfI SV.sz := by
  have ri : Rd enc Tryz.prog w base spare 3 1 (fun n : Int => [AV.int .i64 n]) (intWf .i64) (fun _ => 1) := rd_int Tryz.underlying3 c3
  have rs : Rd enc Tryz.prog w base spare 9 1 (fun s : List UInt8 => [AV.str s]) (fun _ => True) (fun s => s.length + 1) := rd_str Tryz.underlying9 c9
  have r59 := rd_struct Tryz.underlying59 c59 (by omega) (rdF_cons rfl ri (rdF_cons rfl ri (rdF_cons rfl rs rdF_nil)))
  have r61 := rd_struct Tryz.underlying61 c61 (by omega) (rdF_cons rfl ri (rdF_cons rfl ri (rdF_cons rfl ri (rdF_cons rfl r59 rdF_nil))))
  exact r61.conv2 (fun x => ⟨x.1, x.2.1, x.2.2.1, x.2.2.2.1.1, x.2.2.2.1.2.1, x.2.2.2.1.2.2.1⟩) (fun _ _ => rfl)
    (fun x hx => ⟨isI64_of hx.1, isI64_of hx.2.1, isI64_of hx.2.2.1, isI64_of hx.2.2.2.1.1, isI64_of hx.2.2.2.1.2.1⟩) (fun x => by simp only [SV.sz]; omega) (fun _ => rfl)

theorem rd64 : Rd enc Tryz.prog w base spare 64 18 frC FPw (fun p => p.1.sz) := by
  have ri : Rd enc Tryz.prog w base spare 3 1 (fun n : Int => [AV.int .i64 n]) (intWf .i64) (fun _ => 1) := rd_int Tryz.underlying3 c3
  have rv : Rd enc Tryz.prog w base spare 61 6 svC SV.wfI SV.sz := rd61
  have r62 := rd_slice Tryz.underlying62 c62 rv
  have r64 := rd_struct Tryz.underlying64 c64 (by omega) (rdF_cons rfl ri (rdF_cons rfl ri (rdF_cons rfl rv (rdF_cons rfl rv (rdF_cons rfl r62 (rdF_cons rfl r62 (rdF_cons rfl ri (rdF_cons rfl ri rdF_nil))))))))
  exact r64.conv2 (fun x => (⟨x.1, x.2.1, x.2.2.1, x.2.2.2.1, x.2.2.2.2.1.2, x.2.2.2.2.2.1.2, x.2.2.2.2.2.2.1, x.2.2.2.2.2.2.2.1⟩, x.2.2.2.2.1.1, x.2.2.2.2.2.1.1)) (fun _ _ => rfl)
    (fun x hx => ⟨isI64_of hx.1, isI64_of hx.2.1, hx.2.2.1, hx.2.2.2.1, hx.2.2.2.2.1, hx.2.2.2.2.2.1, isI64_of hx.2.2.2.2.2.2.1, isI64_of hx.2.2.2.2.2.2.2.1⟩) (fun x => by simp only [SF.sz, sumS]; omega) (fun _ => rfl)

theorem rd22 : Rd enc Tryz.prog w base spare 22 1 (fun x : AV × List LP => [x.1]) (SlWf lsC (SlWf frC FPw)) (fun x => sumS (fun q : LP => sumS (fun p : FP => p.1.sz) q.2 + 1) x.2 + 1) :=
  rd_slice Tryz.underlying22 c22 (rd_slice Tryz.underlying32 c32 rd64)

theorem byteA_of {n : Int} (h : intWf .u8 n) : [byteA (UInt8.ofNat n.toNat)] = [AV.int .u8 n] := by
  unfold intWf at h
  have h1 : (IntKind.u8.min) = 0 := rfl
  have h2 : (IntKind.u8.max) = 255 := rfl
  simp only [Lit.wf, h1, h2, Bool.and_eq_true, decide_eq_true_eq] at h
  unfold byteA
  congr 2
  rw [UInt8.toNat_ofNat_of_lt' (by show n.toNat < 256; omega)]
  omega

theorem rd23 : Rd enc Tryz.prog w base spare 23 1 (fun x : AV × List UInt8 => [x.1]) (SlWf (fun b : UInt8 => [byteA b]) (fun _ => True)) (fun x => sumS (fun _ => 1) x.2 + 1) := by
  have ri : Rd enc Tryz.prog w base spare 5 1 (fun n : Int => [AV.int .u8 n]) (intWf .u8) (fun _ => 1) := rd_int Tryz.underlying5 c5
  have rb : Rd enc Tryz.prog w base spare 5 1 (fun b : UInt8 => [byteA b]) (fun _ => True) (fun _ => 1) := ri.conv2 (fun n => UInt8.ofNat n.toNat) (fun n hn => byteA_of hn) (fun _ _ => trivial) (fun _ => Nat.le_refl _) (fun _ => rfl)
  exact rd_slice Tryz.underlying23 c23 rb
end

theorem Sl.of_wf {α : Type} {cells : α → List AV} {wf : α → Prop} {e : Nat} {v : AV} {l : List α} {S : Nat → Prop} (hx : SlWf cells wf (v, l)) (hl : ∀ a, (cells a).length = e) : Sl emptyH S e v l.length (l.flatMap cells) := by
  obtain ⟨hx, _⟩ := hx
  simp only at hx
  rcases hx with ⟨rfl, rfl⟩ | ⟨rfl, rfl⟩ | ⟨rfl, h0⟩
  · exact ⟨⟨rfl, by simp, (fun s hs => by cases hs), .inl rfl⟩, by simp only [SlF]⟩
  · exact ⟨⟨rfl, by simp, (fun s hs => by cases hs), .inl rfl⟩, by simp only [SlF]⟩
  · have hfl : (l.flatMap cells).length = l.length * e := flat_length hl l
    refine ⟨⟨rfl, hfl, (fun s hs => by cases hs), .inr ?_⟩, ?_⟩
    · simp only
      rw [cut_eq (by omega), List.drop_zero, List.take_of_length_le (by omega)]
    · simp only [SlF]; intro k hk; cases hk

theorem le_sumS {α : Type} {size : α → Nat} : ∀ {l : List α} {a : α}, a ∈ l → size a ≤ sumS size l
  | x :: l, a, h => by
    simp only [sumS, List.map_cons, List.sum_cons]
    rcases List.mem_cons.1 h with rfl | h
    · omega
    · have := le_sumS (size := size) h
      simp only [sumS] at this; omega

theorem len_sumS {α : Type} {size : α → Nat} : ∀ {l : List α}, (∀ a ∈ l, 1 ≤ size a) → l.length ≤ sumS size l
  | [], _ => by simp [sumS]
  | x :: l, h => by
    have h1 := h x (by simp)
    have h2 := len_sumS (size := size) (l := l) fun a ha => h a (by simp [ha])
    simp only [sumS, List.map_cons, List.sum_cons, List.length_cons] at h2 ⊢; omega

theorem sv_wf {v : SV} (h : v.wfI) (hs : v.sz ≤ 1048576) : v.wf := ⟨h.1, h.2.1, h.2.2.1, h.2.2.2.1, h.2.2.2.2, by unfold SV.sz at hs; omega⟩

theorem fp_wf {p : FP} (h : FPw p) (hs : p.1.sz ≤ 1048576) : p.1.wf ∧ lens p.1 := by
  obtain ⟨h1, h2, h3, h4, h5, h6, h7, h8⟩ := h
  have hs' := hs
  unfold SF.sz at hs
  have l1 := len_le_sz p.1.vars
  have l2 := len_le_sz p.1.stack
  refine ⟨⟨h1, h2, sv_wf h3 (by omega), sv_wf h4 (by omega), fun v hv => sv_wf (h5.2 v hv) ?_, fun v hv => sv_wf (h6.2 v hv) ?_, by omega, by omega, h7, h8⟩, by unfold lens; omega⟩
  · have := le_sumS (size := SV.sz) hv
    unfold sumS at this; omega
  · have := le_sumS (size := SV.sz) hv
    unfold sumS at this; omega

theorem RdLs.of_wf {v : AV} {qs : List LP} {S : Nat → Prop} (h : SlWf lsC (SlWf frC FPw) (v, qs)) : RdLs emptyH S v qs :=
  ⟨Sl.of_wf h lsC_len, fun q hq => ⟨Sl.of_wf (h.2 q hq) frC_len, fun p hp => ⟨Sl.of_wf ((h.2 q hq).2 p hp).2.2.2.2.1 svC_len, Sl.of_wf ((h.2 q hq).2 p hp).2.2.2.2.2.1 svC_len⟩⟩⟩

theorem sumS_fp (l : List FP) : sumS (fun p : FP => p.1.sz) l = ((plainF l).map SF.sz).sum := by
  unfold sumS plainF
  rw [List.map_map]; rfl

theorem encOK_of {v : AV} {qs : List LP} (h : SlWf lsC (SlWf frC FPw) (v, qs)) (hs : sumS (fun q : LP => sumS (fun p : FP => p.1.sz) q.2 + 1) qs ≤ 1048576) : EncOK (plainL qs) ∧ ∀ q ∈ qs, q.2.length ≤ 9999999 := by
  have one : ∀ q ∈ qs, sumS (fun p : FP => p.1.sz) q.2 ≤ 1048575 := fun q hq => by
    have := le_sumS (size := fun q : LP => sumS (fun p : FP => p.1.sz) q.2 + 1) hq
    omega
  have each : ∀ q ∈ qs, ∀ p ∈ q.2, p.1.wf ∧ lens p.1 := fun q hq p hp => fp_wf ((h.2 q hq).2 p hp) (by
    have h1 := le_sumS (size := fun p : FP => p.1.sz) hp
    have h2 := one q hq
    omega)
  refine ⟨⟨?_, ?_, ?_⟩, fun q hq => ?_⟩
  · intro fs hfs f hf
    obtain ⟨q, hq, rfl⟩ := List.mem_map.1 hfs
    obtain ⟨p, hp, rfl⟩ := List.mem_map.1 hf
    exact each q hq p hp
  · have := len_sumS (size := fun q : LP => sumS (fun p : FP => p.1.sz) q.2 + 1) (l := qs) fun q _ => by omega
    simp only [plainL, List.length_map]; omega
  · intro fs hfs
    obtain ⟨q, hq, rfl⟩ := List.mem_map.1 hfs
    have h1 := one q hq
    rw [sumS_fp] at h1
    have h2 := frs_le (l := plainF q.2) (fun f hf => by
      obtain ⟨p, hp, rfl⟩ := List.mem_map.1 hf
      exact (each q hq p hp).1) (by omega)
    omega
  · have h1 := len_sumS (size := fun p : FP => p.1.sz) (l := q.2) fun p _ => by unfold SF.sz; omega
    have h2 := one q hq
    omega

theorem flat_bytes (b : List UInt8) : b.flatMap (fun b => [byteA b]) = b.map byteA := by
  induction b with
  | nil => rfl
  | cons x b ih => simp only [List.flatMap_cons, List.map_cons, ih, List.singleton_append]

set_option maxRecDepth 20000 in
/-- the two arguments, of bulk at most 1048576 -/
theorem scopeKept_args {H : Type} {enc : TypeId × Value → H} {W : World} {base : Nat} {args : Array Value} {ds : List (DataW H)} {ps : List MemPlace}
    (hval : ∀ (j : Nat) t v, (#[22, 23] : Array TypeId)[j]? = some t → args[j]? = some v → Value.okWide Tryz.prog W .any base t v)
    (hA : DataW.TrodAll enc Tryz.prog W 0 (fun _ => true) true [22, 23] args.toList ds ps) (hb : bulkDs ds ≤ 1048576) :
    ∃ (v w : AV) (x y : Value), args = #[x, y] ∧ VRs (cellsAll W) noPl [v, w] [x, y] ∧ CallA progK (.fn 3) [v, w] emptyH fun r _ => r = .ret (.bool true) := by
  obtain ⟨x, vs0, d0, ds0, p0, q0, hargs, rfl, rfl, h0, r0⟩ := trodAll_cons hA
  obtain ⟨y, vs1, d1, ds1, p1, q1, rfl, rfl, rfl, h1, r1⟩ := trodAll_cons r0
  obtain ⟨rfl, rfl, rfl⟩ := trodAll_nil r1
  obtain rfl : args = #[x, y] := by
    have := congrArg List.toArray hargs
    simpa using this
  obtain ⟨a0, n0, k0, rfl⟩ := okWide_slice Tryz.underlying22 (hval 0 22 x rfl rfl)
  obtain ⟨a1, n1, k1, rfl⟩ := okWide_slice Tryz.underlying23 (hval 1 23 y rfl rfl)
  obtain ⟨f0, e0⟩ := h0
  obtain ⟨f1, e1⟩ := h1
  obtain ⟨⟨v, qs⟩, g1, g2, g3⟩ := (rd22 (enc := enc) (w := W) (base := 0) (spare := fun _ => true)).rd e0
  obtain ⟨⟨u, b⟩, m1, m2, m3⟩ := (rd23 (enc := enc) (w := W) (base := 0) (spare := fun _ => true)).rd e1
  simp only [bulkDs] at hb
  simp only at g3 m3 g1 m1
  have hbl : b.length ≤ 1048576 := by
    have := len_sumS (size := fun _ : UInt8 => 1) (l := b) fun _ _ => Nat.le_refl _
    omega
  obtain ⟨o1, o2⟩ := encOK_of g2 (by omega)
  have hsl : Sl emptyH (fun _ => True) 1 u b.length (b.map byteA) := by
    rw [← flat_bytes]
    exact Sl.of_wf m2 (fun _ => rfl)
  refine ⟨v, u, _, _, rfl, VRs_append (a := [v]) (b := [u]) (x := [_]) (y := [_]) g1 m1, scopeKept_ok (S := fun _ => True) (S' := fun _ => True) (RdLs.of_wf g2) hsl o1 o2 hbl⟩
end Go.AM
