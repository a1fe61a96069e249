/- ScopeKept, at every input of bulk at most 1048576: true, and the input reads as it did. Conditions: the seat's row: the listed variables hold what the program's text lays. -/
import Derived.Test.YtlpnnoojgbhfaaaGreatDoorRa
import Derived.Test.YtlpnnoojgbhfaaaGreatDoorSt
import Derived.Test.YtlpnnoojgbhfaaaGreatDoorWX
import Derived.Test.YtlpnnoojgbhfaaaGreatDoorCards
import Derived.Test.YtlpnnoojgbhfaaaGreatDoorRowA
import Derived.WalkKit
import Derived.ProofKit
import Derived.OpenShut
import Derived.Deep.DeepHandedRow
import Derived.Deep.DeepWitnessRowRef
import Derived.Lib.LaidTab
import Derived.Stop.LaidErr
import Derived.LaidLaws
import Derived.Lay
import Derived.WideKeyArgs
set_option linter.all false
namespace Go.Proofs.YtlpnnoojgbhfaaaGreatDoor
open Go.ChangeShapes Go.WideShapes Go.ChangeAt Go.RowKit Go.AM

/-! how much a reading holds -/
mutual
theorem bulk_eq {H : Type} : ∀ d : DataW H, Rows.uptoBulk d = bulkD d
  | .lit l => by cases l <;> simp only [Rows.uptoBulk, bulkD]
  | .nil => by simp only [Rows.uptoBulk, bulkD]
  | .ptr d => by simp only [Rows.uptoBulk, bulkD, bulk_eq d]
  | .slice elems spare => by simp only [Rows.uptoBulk, bulkD, bulks_eq elems, bulks_eq spare]
  | .agg parts => by simp only [Rows.uptoBulk, bulkD, bulks_eq parts]
  | .iface _ d => by simp only [Rows.uptoBulk, bulkD, bulk_eq d]
  | .map entries => by simp only [Rows.uptoBulk, bulkD, bulke_eq entries]
  | .held _ => by simp only [Rows.uptoBulk, bulkD]
theorem bulks_eq {H : Type} : ∀ l : List (DataW H), Rows.uptoBulkAll l = bulkDs l
  | [] => by simp only [Rows.uptoBulkAll, bulkDs]
  | d :: r => by simp only [Rows.uptoBulkAll, bulkDs, bulk_eq d, bulks_eq r]
theorem bulke_eq {H : Type} : ∀ l : List (Lit × DataW H), Rows.uptoBulkEntries l = bulkDe l
  | [] => by simp only [Rows.uptoBulkEntries, bulkDe]
  | x :: r => by simp only [Rows.uptoBulkEntries, bulkDe, bulkx_eq x, bulke_eq r]
theorem bulkx_eq {H : Type} : ∀ x : Lit × DataW H, Rows.uptoBulkEntry x = bulkDx x
  | (l, d) => by cases l <;> simp only [Rows.uptoBulkEntry, bulkDx, bulk_eq d]
end

/-! what the listed variables hold -/
theorem var_cells {W : World} {name : String} {g : Nat} {cs : Array Value} (h : W.var? Tryz.prog name = some cs) (hg : Tryz.prog.globalNamed name = some g) : ∃ t f, W.heap[g]? = some (.cells cs t f) := by
  unfold World.var? at h
  rw [hg] at h
  simp only [Option.bind_some] at h
  split at h
  · rename_i c t f hh
    cases h
    exact ⟨t, f, hh⟩
  · cases h

theorem PC_ints {W : World} {ρ : Pl} {B : Nat} {k : IntKind} (hB : B < W.heap.size) : ∀ {zs : List Int} {d : Nat}, (∀ i (hi : i < zs.length), W.cell? ⟨B, d + i, none⟩ = some (.int k zs[i])) → PC (cellsAll W) ρ B d (zs.map (AV.int k))
  | [], _, _ => by simp only [List.map_nil, PC]
  | z :: zs, d, h => by
    simp only [List.map_cons, PC, VR]
    refine ⟨⟨_, ?_, rfl⟩, PC_ints hB fun i hi => ?_⟩
    · unfold cellsAll
      rw [if_pos hB]
      have := h 0 (by simp)
      simpa using this
    · have := h (i + 1) (by simp; omega)
      rw [show d + (i + 1) = d + 1 + i by omega] at this
      simpa using this

theorem glob_of {W : World} (h : laidMetH Tryz.prog Rows.scopeKeptUptoRow.laid W) : GlobAt tbT W := by
  have h0 : laidMet Tryz.prog Rows.scopeKeptUptoRow.laid W := h
  have h2 := h0.tail.tail
  have ht : Lib.TabIs Tryz.prog W "internal/strconv.uint64pow10" .u64 Lib.pow10Tab :=
    Lib.tabIs_of_head (rest := _) g_pow10 g_pow10Type Tryz.underlying354 Tryz.underlying276 c276 c354 h2
  have h5 := h2.tail.tail.tail
  obtain ⟨a3, s3, e3, _⟩ := laid_sentinel h5 g_syntax g_syntaxType Tryz.underlying121 row431 Tryz.underlying431 Tryz.underlying433 rfl rfl Tryz.underlying9 c433 c9
  obtain ⟨a4, s4, e4, _⟩ := laid_sentinel h5.tail g_range g_rangeType Tryz.underlying121 row431 Tryz.underlying431 Tryz.underlying433 rfl rfl Tryz.underlying9 c433 c9
  obtain ⟨t2, f2, v2⟩ := var_cells ht g_pow10
  obtain ⟨t3, f3, v3⟩ := var_cells e3 g_syntax
  obtain ⟨t4, f4, v4⟩ := var_cells e4 g_range
  have b2 : 2 < W.heap.size := (Array.getElem?_eq_some_iff.1 v2).1
  have b3 : 3 < W.heap.size := (Array.getElem?_eq_some_iff.1 v3).1
  have b4 : 4 < W.heap.size := (Array.getElem?_eq_some_iff.1 v4).1
  refine ⟨fun ρ g cs hc => ?_, fun g cs hc hne => ?_⟩
  · change glT g = some cs at hc
    unfold glT at hc
    split at hc <;> cases hc
    · simp only [gl0, PC]
    · simp only [gl1, PC]
    · rw [gl2_eq]
      refine PC_ints b2 fun i hi => ?_
      simp only [World.cell?, v2, Nat.zero_add]
      simp [hi]
    · simp only [gl3, PC, VR]
      refine ⟨⟨.iface 431 (.pointer (some a3)), ?_, _, rfl, trivial⟩, trivial⟩
      unfold cellsAll
      rw [if_pos b3]
      simp [World.cell?, v3]
    · simp only [gl4, PC, VR]
      refine ⟨⟨.iface 431 (.pointer (some a4)), ?_, _, rfl, trivial⟩, trivial⟩
      unfold cellsAll
      rw [if_pos b4]
      simp [World.cell?, v4]
    · simp only [gl5, PC]
    · simp only [gl6, PC]
    · simp only [gl7, PC]
    · simp only [gl8, PC]
  · change glT g = some cs at hc
    unfold glT at hc
    split at hc <;> cases hc
    · exact absurd rfl hne
    · exact absurd rfl hne
    · rw [gl2_eq, List.length_map]
      simp [World.cell?, v2]
    · simp [World.cell?, v3, gl3]
    · simp [World.cell?, v4, gl4]
    · exact absurd rfl hne
    · exact absurd rfl hne
    · exact absurd rfl hne
    · exact absurd rfl hne

theorem prog_ok : ProgOK tbT progK := progK_ok follows_any progT_ok itoa_spec atoi_spec awake_ok
theorem fn3 : ∃ fn c, Tryz.prog.funcs[3]? = some fn ∧ (fn.name == "runtime.NumGoroutine") = false ∧ fn.body = some c := ⟨Tryz.f3, _, Tryz.func3, by kernel_rfl, by first | rfl | kernel_rfl⟩

open Classical in
/-- the call, in every world in which the listed variables hold what they hold -/
theorem calls {v w : AV} {x y : Value} {W : World} (hg : GlobAt tbT W) (hv : VRs (cellsAll W) noPl [v, w] [x, y]) (hc : CallA progK (.fn 3) [v, w] emptyH fun r _ => r = .ret (.bool true)) :
    Calls Tryz.prog 3 #[x, y] W fun e W' => e = .returned (.bool true) ∧ W.heap.size ≤ W'.heap.size ∧ (∀ B, B < W.heap.size → W'.heap[B]? = W.heap[B]?) ∧ W'.os = W.os ∧ W'.output = W.output := by
  have hs : SpecOK tbT 3 (fun d => if d = [v, w] then some (.bool true) else none) := spec_of_runs follows_any prog_ok fun d u h => by
    split at h
    · rename_i e
      cases h
      rw [e]; exact runs_of_call rfl hc
    · cases h
  obtain ⟨fn, c, k1, k2, k3⟩ := fn3
  rcases hs [v, w] (.bool true) (if_pos rfl) W [x, y] hg hv with ⟨z, w', q1, _⟩ | ⟨_, q2⟩
  · have := run_callFunc (args := [x, y].toArray) (w := W) k1 k2 k3
    rw [show tbT.P = Tryz.prog from rfl] at q1
    rw [this] at q1
    cases q1
  · refine (callsIn_wide.1 q2).mono fun e W' hr => ?_
    obtain ⟨r1, r2, r3, z, rfl, r4⟩ := hr
    have := r4 (fun _ _ => none) (fun _ => none)
    simp only [VR] at this
    subst this
    exact ⟨rfl, r1, r2, r3⟩

set_option maxRecDepth 100000 in
theorem contract (H : Type) (enc : TypeId × Value → H) (W : World) (base : Nat) (args : Array Value) (ds gs : List (DataW H)) (before : List MemPlace)
    (hval : ∀ (j : Nat) t v, Tryz.f3.params[j]? = some t → args[j]? = some v → Value.okWide Tryz.prog W .any base t v)
    (hW : DataW.Whole enc Tryz.prog Tryz.f3.params.toList Rows.scopeKeptSpec.vars false W args.toList ds gs before) (hb : Rows.uptoSmall H (ds ++ gs) = true) (hL : laidMetH Tryz.prog Rows.scopeKeptUptoRow.laid W) :
    Calls Tryz.prog 3 args W fun e W' => ∃ v, e = .returned v ∧ Rows.scopeKeptSpec.post enc Tryz.prog Tryz.f3 false true false false W args v W' := by
  have hW' := hW
  have hlt := hW.lt
  obtain ⟨p, q, hA0, hV, rfl, hfz, hnd⟩ := hW
  have hA : DataW.TrodAll enc Tryz.prog W 0 (fun _ => true) true Tryz.f3.params.toList args.toList ds p := hA0
  rw [Tryz.params3] at hA hval
  obtain ⟨rfl, rfl⟩ := trodVars_none hV
  rw [List.append_nil] at hb
  have hb' : bulkDs ds ≤ 1048576 := by
    rw [← bulks_eq]
    simpa [Rows.uptoSmall] using hb
  obtain ⟨v, w, x, y, rfl, hv, hc⟩ := scopeKept_args hval hA hb'
  obtain ⟨x', vs0, d0, ds0, p0, q0, hargs, rfl, rfl, h0, r0⟩ := trodAll_cons hA
  obtain ⟨y', vs1, d1, ds1, p1, q1, e1, rfl, rfl, h1, r1⟩ := trodAll_cons r0
  obtain ⟨rfl, rfl, rfl⟩ := trodAll_nil r1
  subst e1
  cases hargs
  refine (calls (glob_of hL) hv hc).mono fun e W' hr => ?_
  obtain ⟨rfl, r1, r2, r3, r4⟩ := hr
  have same : ∀ t ∈ p0 ++ (p1 ++ []) ++ [], W.sameAt W' t := fun t ht => by
    have hl := hlt t ht
    cases t with
    | cell b o => exact World.cell?_of_block (w := W) (r2 b hl)
    | map b => exact r2 b hl
  have s0 := WideElems.Trod_stays laidOut (by kernel_rfl) (of_decide_eq_true (by kernel_rfl)) (sp' := fun b => decide (b < W.heap.size)) h0 (fun t ht => same t (by simp [ht])) (fun t ht => by simpa using hlt t (by simp [ht]))
  have s1 := WideElems.Trod_stays laidOut (by kernel_rfl) (of_decide_eq_true (by kernel_rfl)) (sp' := fun b => decide (b < W.heap.size)) h1 (fun t ht => same t (by simp [ht])) (fun t ht => by simpa using hlt t (by simp [ht]))
  refine ⟨_, rfl, [d0, d1], [], _, [], p0 ++ (p1 ++ []), [], hW', trodAll_cons_mk (shut_bool Tryz.underlying4 _) trodAll_mk0, ?_, rfl, ?_, fun h => by cases h⟩
  · show DataW.TrodAll enc Tryz.prog W' 0 (fun b => decide (b < W.heap.size)) true Tryz.f3.params.toList [x, y] [d0, d1] (p0 ++ (p1 ++ []))
    rw [Tryz.params3]
    exact ⟨p0, p1 ++ [], s0, ⟨p1, [], s1, rfl, rfl⟩, rfl⟩
  · refine ⟨r3, r4, fun i hi => ?_⟩
    rw [r2 i hi]
    split <;> simp_all

set_option maxRecDepth 100000 in
theorem liftedUpto (os : Os) (started : os.Started) (H : Type) (enc : TypeId × Value → H) (F : Stop.Interp) :
    ReturnsInHanded {} Tryz.checked os 3 .any ((Rows.OpenSpec.upto Rows.scopeKeptSpec).preRow enc Tryz.prog Tryz.f3 Rows.scopeKeptUptoRow.domain false Rows.scopeKeptUptoRow.laid) (((Rows.OpenSpec.upto Rows.scopeKeptSpec).at F).post enc Tryz.prog Tryz.f3 false true false false) := by
  obtain ⟨places, hx⟩ := reads os enc
  refine returnsInHanded_of_row (C := Tryz.checked) (s := Rows.OpenSpec.upto Rows.scopeKeptSpec) own started noInit3 Tryz.func3
    (witness_row_atRef (enc := enc) (C := Tryz.checked) false (World.laidAll Tryz.prog os Rows.scopeKeptUptoRow.laid) #[.slice none 0 0, .slice none 0 0] (World.laidAll_os _ _ _) (fits1 os) (fits2 os) (fits3 os)
      (OpenSpec.preRow_of_cond 8 hx (by kernel_rfl) (fun k hk => by cases hk; kernel_rfl) (by kernel_rfl) (laid_met os))) ?_
  intro W base args ds gs before hval hW _ hcond _ hL _ _
  exact contract H enc W base args ds gs before hval hW (hcond _ rfl) hL
end Go.Proofs.YtlpnnoojgbhfaaaGreatDoor
