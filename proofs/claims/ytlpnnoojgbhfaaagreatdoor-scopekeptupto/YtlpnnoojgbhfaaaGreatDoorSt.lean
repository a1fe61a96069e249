/- Itoa and Atoi of the library, by its contracts. -/
import Derived.Test.YtlpnnoojgbhfaaaGreatDoorSa
import Derived.Test.YtlpnnoojgbhfaaaGreatDoorP
import Derived.Test.YtlpnnoojgbhfaaaGreatDoorShelf
import Derived.Below
import Derived.Lib.SmallJoins
import Derived.CallsIn
import Derived.KernelRfl
set_option linter.all false
namespace Go.AM
open Go.Proofs Go.RowKit Go.Sort

theorem ints_at {st : Stab} {ρ : Pl} {B : Nat} {k : IntKind} : ∀ {zs : List Int} {d : Nat}, PC st ρ B d (zs.map (AV.int k)) → ∀ i (hi : i < zs.length), st B (d + i) = some (.int k zs[i])
  | [], _, _, i, hi => by cases hi
  | z :: zs, d, h, i, hi => by
    simp only [List.map_cons, PC, VR] at h
    obtain ⟨⟨x, h1, h2⟩, h3⟩ := h
    cases i with
    | zero => rw [Nat.add_zero, h1, h2]; rfl
    | succ i =>
      have := ints_at h3 i (by simpa using hi)
      rw [show d + (i + 1) = d + 1 + i by omega, this]; rfl

theorem var_of {w : World} {ρ : Pl} {g : Nat} {k : IntKind} {zs : List Int} (hP : PC (cellsAll w) ρ g 0 (zs.map (AV.int k))) (hne : 0 < zs.length) (hN : w.cell? ⟨g, zs.length, none⟩ = none) :
    ∃ t f, w.heap[g]? = some (.cells (zs.map fun z => Value.int k z).toArray t f) := by
  have hc : ∀ i (hi : i < zs.length), w.cell? ⟨g, i, none⟩ = some (.int k zs[i]) := fun i hi => by
    have := ints_at hP i hi
    rw [Nat.zero_add] at this
    unfold cellsAll at this
    split at this
    · exact this
    · cases this
  have h0 := hc 0 hne
  unfold World.cell? at h0
  split at h0
  · rename_i cs t f hh
    refine ⟨t, f, ?_⟩
    rw [hh]
    congr 2
    have each : ∀ i (hi : i < zs.length), cs[i]? = some (.int k zs[i]) := fun i hi => by
      have := hc i hi
      simp only [World.cell?, hh] at this
      simpa using this
    have hsz : cs.size ≤ zs.length := by
      simp only [World.cell?, hh] at hN
      have : cs[zs.length]? = none := by simpa using hN
      exact Array.getElem?_eq_none_iff.1 this
    apply Array.ext_getElem?
    intro i
    by_cases hi : i < zs.length
    · rw [each i hi]; simp [hi]
    · rw [Array.getElem?_eq_none (by omega), Array.getElem?_eq_none (by simp; omega)]
  · cases h0

theorem g_pow10 : Tryz.prog.globalNamed "internal/strconv.uint64pow10" = some 2 := by kernel_rfl
theorem gl2_eq : gl2 = Lib.pow10Tab.map (AV.int .u64) := by rfl

theorem tab_of {w : World} (hg : GlobAt tbT w) : Lib.TabIs Tryz.prog w "internal/strconv.uint64pow10" .u64 Lib.pow10Tab := by
  have h1 := hg.1 (fun _ => none) 2 gl2 rfl
  have h2 := hg.2 2 gl2 rfl (by simp [gl2])
  rw [gl2_eq] at h1 h2
  rw [List.length_map] at h2
  obtain ⟨t, f, h3⟩ := var_of h1 (by rw [Lib.pow10Tab_length]; omega) h2
  unfold Lib.TabIs World.var?
  rw [g_pow10]
  simp only [Option.bind_some, h3]

theorem err_of {w : World} (hg : GlobAt tbT w) {g : Nat} (h : tbT.G g = some [.iface 431 .bot]) : ∃ y, w.cell? ⟨g, 0, none⟩ = some (.iface 431 y) := by
  have h1 := hg.1 (fun _ => none) g _ h
  simp only [PC, VR] at h1
  obtain ⟨⟨x, h2, y, rfl, _⟩, _⟩ := h1
  unfold cellsAll at h2
  split at h2
  · exact ⟨y, h2⟩
  · cases h2

theorem fn45 : ∃ fn c, Tryz.prog.funcs[45]? = some fn ∧ (fn.name == "runtime.NumGoroutine") = false ∧ fn.body = some c := ⟨Tryz.f45, _, Tryz.func45, by kernel_rfl, by first | rfl | kernel_rfl⟩
theorem fn90 : ∃ fn c, Tryz.prog.funcs[90]? = some fn ∧ (fn.name == "runtime.NumGoroutine") = false ∧ fn.body = some c := ⟨Tryz.f90, _, Tryz.func90, by kernel_rfl, by first | rfl | kernel_rfl⟩

theorem itoa_spec : SpecOK tbT 45 itoaF := by
  intro d v hd w xs hg hv
  unfold itoaF at hd
  split at hd <;> try (cases hd; done)
  rename_i n
  split at hd <;> try (cases hd; done)
  rename_i hn
  simp only [Option.some.injEq] at hd
  subst hd
  simp only [VRs, VR] at hv
  obtain ⟨x, r, rfl, rfl, rfl⟩ := hv
  obtain ⟨fn, c, k1, k2, k3⟩ := fn45
  refine .inr ⟨run_callFunc k1 k2 k3, callsIn_wide.2 ((Tryz.strconv_Itoa n hn.1 hn.2 w (tab_of hg)).mono ?_)⟩
  rintro e w' ⟨rfl, k, os, rfl⟩
  refine ⟨by simp [grow, World.drewN], fun B hB => ?_, ⟨rfl, rfl⟩, _, rfl, fun st ρ => by simp only [VR]⟩
  simp only [grow, World.drewN]
  rw [Array.getElem?_append_left hB]

theorem atoi_spec : SpecOK tbT 90 atoiF := by
  intro d v hd w xs hg hv
  unfold atoiF at hd
  split at hd <;> try (cases hd; done)
  rename_i s
  split at hd <;> try (cases hd; done)
  rename_i hs
  simp only [Option.some.injEq] at hd
  subst hd
  simp only [VRs, VR] at hv
  obtain ⟨x, r, rfl, rfl, rfl⟩ := hv
  obtain ⟨fn, c, k1, k2, k3⟩ := fn90
  have hsz : (⟨s.toArray⟩ : ByteArray).size = s.length := by simp [ByteArray.size]
  have hl : (⟨s.toArray⟩ : ByteArray).data.toList = s := by simp
  refine .inr ⟨run_callFunc k1 k2 k3, callsIn_wide.2 ?_⟩
  obtain ⟨y3, h3⟩ := err_of hg (g := 3) rfl
  obtain ⟨y4, h4⟩ := err_of hg (g := 4) rfl
  by_cases hok : ∃ n, Lib.atoiAll s = .ok n
  · obtain ⟨n, ha⟩ := hok
    refine (Tryz.strconv_Atoi_ok ⟨s.toArray⟩ (by omega) n (by rw [hl]; exact ha) w).mono ?_
    rintro e w' ⟨rfl, hw⟩
    have hb : Below w.heap.size w w' := by
      rcases hw with rfl | ⟨t, rfl⟩
      · exact Below.refl _ _
      · exact Go.Joins.below_bytesWorld _ _ _ _ (Nat.le_refl _)
    refine ⟨hb.size, fun B hB => hb.block B hB, ⟨hb.os, hb.output⟩, _, rfl, fun st ρ => ?_⟩
    unfold atoiA
    rw [ha]
    simp only [VR, VRs]
    exact ⟨_, rfl, _, _, rfl, rfl, _, _, rfl, rfl, rfl⟩
  · have hne : ∀ n, Lib.atoiAll s ≠ .ok n := fun n hn => hok ⟨n, hn⟩
    have ea : atoiA s = .tuple [.bot, .iface 284 .bot] := by
      unfold atoiA
      split
      · rename_i n hn
        exact absurd hn (hne n)
      · rfl
    refine (Tryz.strconv_Atoi_bad ⟨s.toArray⟩ (by omega) (by rw [hl]; exact hne) _ _ w h3 (.inr ⟨_, _, rfl⟩) h4 (.inr ⟨_, _, rfl⟩)).mono ?_
    rintro e w' ⟨x, N, rfl, hb⟩
    refine ⟨hb.size, fun B hB => hb.block B hB, ⟨hb.os, hb.output⟩, _, rfl, fun st ρ => ?_⟩
    rw [ea]
    simp only [VR, VRs]
    exact ⟨_, rfl, _, _, rfl, trivial, _, _, rfl, ⟨_, rfl, trivial⟩, rfl⟩
end Go.AM
