/- RESULTS; THE CODE OF A DEFERRED CALL, WHICH MAY RECOVER. -/
import Derived.Test.YtlpnnoojgbhfaaaGreatDoorMb
import Derived.RecoverIn
import Derived.RangeFuncLeaves
import Derived.Laws.Externs
import Derived.Lib.Bytealg
import Derived.Room.MakeNoZero
import Derived.KernelRfl
import Derived.Deep.Slices
set_option linter.all false
namespace Go.AM
section
variable {C : Cx} {ρ ρ' : Pl} {h h' : Heap} {w w' : World} {t : Tm} {a : Act}

def resV (tmps : Array Value) : ResultVar → Sem Value
  | .tmp t => pure (tmps.getD t undef)
  | .cell a t => do loadVar t (← asAddr (tmps.getD a undef))

theorem results_eq (fn : Func) (tmps : Array Value) : results fn tmps = (do let vs ← fn.results.mapM (resV tmps); pure (if h : vs.size = 1 then vs[0] else .tuple vs)) := rfl

theorem resV_sim {rv : ResultVar} {ar : ARV} {tmps : Array Value} {v : AV} (hr : Rel C ρ h w) (hrv : rvA C.T.P rv = some ar) (ht : TR C.st ρ t tmps) (hv : resultA t h ar = some v) :
    ∃ x, (resV tmps rv).run C.T.P w = .ok x w ∧ VR C.st ρ v x := by
  cases rv with
  | tmp i =>
    simp only [rvA, Option.some.injEq] at hrv; subst hrv
    simp only [resultA, Option.some.injEq] at hv; subst hv
    exact ⟨_, rfl, ht i⟩
  | cell i ty =>
    simp only [rvA] at hrv
    split at hrv <;> try (cases hrv; done)
    rename_i g n hg hn
    split at hrv <;> try (cases hrv; done)
    cases hrv
    simp only [resultA] at hv
    split at hv <;> try (cases hv; done)
    rename_i b o hb
    split at hv <;> try (cases hv; done)
    rename_i cs hcs
    have hp := ht i
    rw [hb] at hp
    obtain ⟨B, m, h1, h2⟩ := ptr_sim hp
    obtain ⟨xs, h3, h4, h5⟩ := read_sim hr h1 hcs
    obtain ⟨y, h6, h7⟩ := loadVar_sim (P := C.T.P) (w := w) hg (by rw [h3]; exact hn) h4 h5 (by rw [h3]; exact hv)
    refine ⟨y, ?_, h7⟩
    simp only [resV, h2, asAddr, Sem.run_bind, Sem.run_pure, Result.andThen_ok]
    exact h6

theorem resVs_sim {tmps : Array Value} (hr : Rel C ρ h w) (ht : TR C.st ρ t tmps) : ∀ {rs : List ResultVar} {ars : List ARV} {l : List AV}, rvsA C.T.P rs = some ars → resultsA t h ars = some l →
    ∃ vs, (rs.mapM (resV tmps)).run C.T.P w = .ok vs w ∧ VRs C.st ρ l vs
  | [], ars, l, hrs, hl => by
    simp only [rvsA, Option.some.injEq] at hrs; subst hrs
    simp only [resultsA, Option.some.injEq] at hl; subst hl
    exact ⟨[], rfl, by simp only [VRs]⟩
  | r :: rs, ars, l, hrs, hl => by
    simp only [rvsA] at hrs
    split at hrs <;> try (cases hrs; done)
    rename_i ar ars' h1 h2
    cases hrs
    simp only [resultsA] at hl
    split at hl <;> try (cases hl; done)
    rename_i v l' h3 h4
    cases hl
    obtain ⟨x, k1, k2⟩ := resV_sim hr h1 ht h3
    obtain ⟨vs, k3, k4⟩ := resVs_sim hr ht h2 h4
    refine ⟨x :: vs, ?_, by simp only [VRs]; exact ⟨x, vs, rfl, k2, k4⟩⟩
    simp only [List.mapM_cons, Sem.run_bind, k1, Result.andThen_ok, k3, Sem.run_pure]

theorem results_sim {fn : Func} {ars : List ARV} {tmps : Array Value} {l : List AV} (hr : Rel C ρ h w) (hrs : rvsA C.T.P fn.results.toList = some ars) (ht : TR C.st ρ t tmps) (hl : resultsA t h ars = some l) :
    ∃ x, (results fn tmps).run C.T.P w = .ok x w ∧ VR C.st ρ (resultV l) x := by
  obtain ⟨vs, h1, h2⟩ := resVs_sim hr ht hrs hl
  have hm : (fn.results.mapM (resV tmps)).run C.T.P w = .ok vs.toArray w := by
    rw [Array.mapM_eq_mapM_toList]
    simp only [Sem.run_map, h1, Result.andThen_ok]
  refine ⟨if h : vs.toArray.size = 1 then vs.toArray[0] else .tuple vs.toArray, ?_, ?_⟩
  · rw [results_eq]
    simp only [Sem.run_bind, hm, Result.andThen_ok, Sem.run_pure]
  · have hlen := h2.length
    match l, vs, h2, hlen with
    | [], [], _, _ => simp [resultV, VR, VRs]
    | [v], [x], h2, _ =>
      simp only [VRs] at h2
      obtain ⟨_, _, e, h3, rfl⟩ := h2
      cases e
      simpa [resultV] using h3
    | v :: v2 :: l, x :: x2 :: xs, h2, _ =>
      simp only [resultV, List.size_toArray, List.length_cons, VR]
      exact ⟨x :: x2 :: xs, by rw [dif_neg (by omega)], h2⟩
    | [], _ :: _, _, hl => simp at hl
    | _ :: _, [], _, hl => simp at hl
    | [_], _ :: _ :: _, _, hl => simp at hl
    | _ :: _ :: _, [_], _, hl => simp at hl

/-! A deferred call -/
def ModeR (C : Cx) (ρ : Pl) : AMode → FrameMode → Prop
  | .ret, u => u = .returning
  | .pan v, u => ∃ x, u = .panicking [{ v := x, recovered := false }] ∧ VR C.st ρ v x
  | .recd v, u => ∃ x, u = .panicking [{ v := x, recovered := true }] ∧ VR C.st ρ v x

theorem ModeR.mono (hl : Pl.le ρ ρ') : ∀ {m : AMode} {u : FrameMode}, ModeR C ρ m u → ModeR C ρ' m u
  | .ret, _, h => h
  | .pan _, _, h => by obtain ⟨x, h1, h2⟩ := h; exact ⟨x, h1, VR.mono hl _ _ h2⟩
  | .recd _, _, h => by obtain ⟨x, h1, h2⟩ := h; exact ⟨x, h1, VR.mono hl _ _ h2⟩

def EndSS (C : Cx) (nt : Nat) (ρ : Pl) (h : Heap) (w : World) (x : AX) (m' : AMode) (s' : St) (e : Exit) (a' : Act) (u' : FrameMode) (w' : World) : Prop :=
  ∃ ρ', ExitR C ρ' x e ∧ Post C ρ h w ρ' s'.h w' ∧ StR C nt ρ' s' a' w' ∧ ModeR C ρ' m' u'

theorem EndSS.exit {nt : Nat} {h1 : Heap} {w1 : World} {x : AX} {m' : AMode} {s' : St} {e : Exit} {a' : Act} {u' : FrameMode} {w' : World} (hp : Post C ρ h w ρ' h1 w1)
    (he : EndSS C nt ρ' h1 w1 x m' s' e a' u' w') : EndSS C nt ρ h w x m' s' e a' u' w' := by
  obtain ⟨ρ2, k1, k2, k3, k4⟩ := he
  exact ⟨ρ2, k1, hp.trans k2, k3, k4⟩

theorem evOperS_plain {d : Option Nat} {g : Option (Nat × Bool)} {op : AOp} {m : AMode} {s : St} (hp : op.plain = true) :
    evOperS ⟨d, g, op⟩ m s = (match wantedA s.t g with
      | some true => (match evOp op s.t s.h with | some (v, h) => some (.nrm, m, { s with t := putD s.t d v, h := h }) | none => none)
      | some false => some (.nrm, m, { s with t := putD s.t d undefA })
      | none => none) := by
  cases op <;> first | rfl | cases hp

theorem builtinA_recover {T : Tb} {b : Builtin} {at_ : List TypeId} {args : List Operand} (ho : builtinA T b at_ args = some .recover) : b = .recover := by
  unfold builtinA at ho
  dsimp only at ho
  repeat' split at ho
  all_goals first
    | rfl
    | (cases ho; done)
    | (simp only [Option.map_eq_some_iff] at ho; obtain ⟨_, _, ho⟩ := ho; cases ho)

theorem evOpersS_sim {nt : Nat} (hg : C.globOK) {ops : Array Oper} {os : List AOper} (hos : opersA C.T nt ops ops.toList = some os) {c₀ : Frame} {cs : List Frame}
    {Q : Exit → Act → List Frame → World → Prop} {x : AX} {m' : AMode} {s' : St} : ∀ (k i : Nat) {m : AMode} {s : St} {a : Act} {w : World} {ρ : Pl} {u : FrameMode}, i + k = os.length →
    evOpersS (os.drop i) m s = some (x, m', s') → StR C nt ρ s a w → ModeR C ρ m u →
    (∀ e a' u' w', EndSS C nt ρ s.h w x m' s' e a' u' w' → Q e a' ({ c₀ with mode := u' } :: cs) w') → wpOpsSIn (wideAt none) 0 C.T.P ops Q (List.range' i k) a ({ c₀ with mode := u } :: cs) w
  | 0, i, m, s, a, w, ρ, u, hi, hev, hs, hm, hq => by
    rw [List.drop_eq_nil_of_le (by omega)] at hev
    simp only [evOpersS] at hev
    cases hev
    exact hq _ _ _ _ ⟨ρ, trivial, Post.refl hs.rel, hs, hm⟩
  | k + 1, i, m, s, a, w, ρ, u, hi, hev, hs, hm, hq => by
    obtain ⟨hl, hget⟩ := opersA_get hos
    have hlt : i < os.length := by omega
    obtain ⟨o, ho⟩ : ∃ o, ops.toList[i]? = some o := ⟨_, List.getElem?_eq_getElem (by omega)⟩
    obtain ⟨ao, hao, hoa⟩ := hget i o ho
    have hdrop : os.drop i = ao :: os.drop (i + 1) := by
      rw [List.drop_eq_getElem_cons hlt]
      rw [List.getElem?_eq_getElem hlt] at hao
      cases hao; rfl
    rw [hdrop] at hev
    simp only [evOpersS] at hev
    rw [List.range'_succ]
    simp only [wpOpsSIn]
    rw [Array.getElem?_toList] at ho
    simp only [ho]
    refine ⟨fun _ _ => trivial, ?_⟩
    -- what is known of the operation
    have hdst : ao.dst = o.dst ∧ (∀ j, o.dst = some j → j < nt) ∧ opA C.T o.op = some ao.op := by
      unfold operA at hoa
      split at hoa <;> try (cases hoa; done)
      rename_i op hop
      split at hoa <;> try (cases hoa; done)
      rename_i hd
      have hd' : ∀ j, o.dst = some j → j < nt := fun j hj => by rw [hj] at hd; simpa using hd
      split at hoa
      · cases hoa; exact ⟨rfl, hd', hop⟩
      · split at hoa <;> try (cases hoa; done)
        cases hoa; exact ⟨rfl, hd', hop⟩
    obtain ⟨hd1, hd2, hop⟩ := hdst
    cases hone : evOperS ao m s with
    | none => rw [hone] at hev; cases hev
    | some r =>
      obtain ⟨x1, m1, s1⟩ := r
      rw [hone] at hev
      -- what comes behind it
      have go : ∀ {ρ1 : Pl} {a1 : Act} {w1 : World} {u1 : FrameMode}, x1 = .nrm → Post C ρ s.h w ρ1 s1.h w1 → StR C nt ρ1 s1 a1 w1 → ModeR C ρ1 m1 u1 →
          wpOpsSIn (wideAt none) 0 C.T.P ops Q (List.range' (i + 1) k) a1 ({ c₀ with mode := u1 } :: cs) w1 := by
        intro ρ1 a1 w1 u1 hx hp hs1 hm1
        subst hx
        simp only at hev
        exact evOpersS_sim hg hos k (i + 1) (by omega) hev hs1 hm1 fun e a' u' w' he => hq _ _ _ _ (EndSS.exit hp he)
      obtain ⟨dst, gd, op⟩ := ao
      simp only at hd1 hop
      subst hd1
      have hwx : ∃ b, wantedA s.t gd = some b := by
        unfold evOperS at hone
        simp only at hone
        cases hw : wantedA s.t gd with
        | none => rw [hw] at hone; cases hone
        | some b => exact ⟨b, rfl⟩
      obtain ⟨b, hb⟩ := hwx
      have hwant := wanted_sim hoa hs.tmps hb
      rw [hwant]
      cases b with
      | false =>
        simp only [Bool.false_eq_true, if_false]
        unfold evOperS at hone
        simp only [hb] at hone
        cases hone
        exact go rfl (Post.refl hs.rel) (hs.put (Post.refl hs.rel) hd2 VR_undef) hm
      | true =>
        simp only [if_true]
        by_cases hpl : op.plain = true
        · rw [evOperS_plain hpl, hb] at hone
          simp only at hone
          split at hone <;> try (cases hone; done)
          rename_i v h' hv
          cases hone
          obtain ⟨ρ', y, w', h1, h2, h3⟩ := op_sim hg hs.rel hs.tmps hop hv
          rcases h1 with h1 | ⟨h1, rfl⟩
          · rw [h1]
            exact go rfl h3 (hs.put h3 hd2 h2) (hm.mono h3.le)
          · rw [h1]
            exact go rfl h3 (hs.put h3 hd2 h2) (hm.mono h3.le)
        · cases hoo : o.op with
          | call c =>
            rw [hoo] at hop
            simp only [opA] at hop
            split at hop
            · rename_i bb hbb
              rcases builtinA_plain hop with hc | rfl
              · exact absurd hc hpl
              · obtain rfl := builtinA_recover hop
                have hrun : (execOp a.eval o).run C.T.P w = .ok .recover w := by
                  have he : execOp a.eval o = builtin .recover c.argTypes o.type (c.args.map fun | .const _ => true | _ => false) (c.args.map a.eval) := by
                    unfold execOp; rw [hoo]; exact resolve_builtin hbb
                  rw [he]; rfl
                rw [hrun]
                unfold evOperS at hone
                simp only [hb] at hone
                cases m with
                | pan v =>
                  simp only [Option.some.injEq, Prod.mk.injEq] at hone
                  obtain ⟨rfl, rfl, rfl⟩ := hone
                  obtain ⟨y, rfl, hv⟩ := hm
                  simp only [recoverD]
                  exact go rfl (Post.refl hs.rel) (hs.put (Post.refl hs.rel) hd2 hv) ⟨y, rfl, hv⟩
                | ret =>
                  simp only [Option.some.injEq, Prod.mk.injEq] at hone
                  obtain ⟨rfl, rfl, rfl⟩ := hone
                  simp only [ModeR] at hm; subst hm
                  simp only [recoverD]
                  exact go rfl (Post.refl hs.rel) (hs.put (Post.refl hs.rel) hd2 (by simp only [VR])) rfl
                | recd v =>
                  simp only [Option.some.injEq, Prod.mk.injEq] at hone
                  obtain ⟨rfl, rfl, rfl⟩ := hone
                  obtain ⟨y, rfl, hv⟩ := hm
                  simp only [recoverD]
                  exact go rfl (Post.refl hs.rel) (hs.put (Post.refl hs.rel) hd2 (by simp only [VR])) ⟨y, rfl, hv⟩
            · split at hop <;> try (cases hop; done)
              cases hop
              unfold evOperS at hone
              simp only [hb] at hone
              cases hone
            · cases hop
          | defer c =>
            rw [hoo] at hop
            simp only [opA] at hop
            split at hop <;> try (cases hop; done)
            split at hop <;> try (cases hop; done)
            cases hop
            unfold evOperS at hone
            simp only [hb] at hone
            cases hone
          | panic y =>
            rw [hoo] at hop
            simp only [opA, Option.map_eq_some_iff] at hop
            obtain ⟨d, hd, rfl⟩ := hop
            unfold evOperS at hone
            simp only [hb] at hone
            split at hone <;> try (cases hone; done)
            rename_i ty v hv
            cases hone
            simp only at hev
            cases hev
            have hyv := opd_sim hg hs.tmps hd
            rw [hv] at hyv
            have hyv' := hyv
            simp only [VR] at hyv'
            obtain ⟨z, hz, _⟩ := hyv'
            have hsem : ((execOp a.eval o).run C.T.P w) = .halt (.panic (a.eval y)) w := by
              unfold execOp; rw [hoo]
              simp only [hz, Instr.panic, Sem.run_bind]
              rfl
            rw [hsem]
            exact hq _ _ _ _ ⟨ρ, ⟨_, rfl, hyv⟩, Post.refl hs.rel, hs, hm⟩
          | _ => exact absurd (opA_plain hop (fun c e => by rw [hoo] at e; cases e) (fun c e => by rw [hoo] at e; cases e) (fun c e => by rw [hoo] at e; cases e)) hpl
end
end Go.AM

/- A FRAME THAT LEAVES; A FUNCTION'S CONTRACT OUT OF ITS ABSTRACT RUN. -/
namespace Go.AM
def Exit.inBlockS (id : Nat) (Q : Exit → Act → List Frame → World → Prop) : Exit → Act → List Frame → World → Prop
  | .exit id', a, cs, w => if id' = id then Q .normal a cs w else Q (.exit id') a cs w
  | e, a, cs, w => Q e a cs w

theorem wpSIn_block {F : Fence} {n : Nat} {P : Program} {Q : Exit → Act → List Frame → World → Prop} {a : Act} {cs : List Frame} {w : World} {id : Nat} {c : Code}
    (h : c.wpSIn F n P (Exit.inBlockS id Q) a cs w) : (Code.block id c).wpSIn F n P Q a cs w := by
  intro b k hb hro hF hr
  have h0 : (lone (b.atR a (.code (.block id c) :: k)) cs w).fenced P F := fenced_calm hF hr rfl
  obtain ⟨e, a₁, cs₁, w₁, hl, hq, harr⟩ := h b (.inBlock id :: k) hb hro hF hr
  have hr1 : F.room (cs₁.length + 1 + n) := hl ▸ hr
  cases e with
  | normal => exact ⟨.normal, a₁, cs₁, w₁, hl, hq, .head h0 stepR_block (StepsIn.trans harr (.one (fenced_calm hF hr1 rfl) stepR_inBlock))⟩
  | exit id' =>
    by_cases hid : id' = id
    · simp only [Exit.inBlockS, hid, if_true] at hq
      exact ⟨.normal, a₁, cs₁, w₁, hl, hq, .head h0 stepR_block (harr.1 k (by simp [exitTo, hid]))⟩
    · simp only [Exit.inBlockS, hid, if_false] at hq
      have this : (id == id') = false := by simp; exact fun h => hid h.symm
      have hx : exitTo id' (.inBlock id :: k) = exitTo id' k := by simp [exitTo, this]
      exact ⟨.exit id', a₁, cs₁, w₁, hl, hq, fun k' hk => .head h0 stepR_block (harr.1 k' (by rw [hx]; exact hk)),
        fun hr' hk => let ⟨k₁, h1, h2⟩ := harr.2 hr' (by rw [hx]; exact hk); ⟨k₁, h1, .head h0 stepR_block h2⟩⟩
  | goto l =>
    have hx : gotoIn l (.inBlock id :: k) = gotoIn l k := by simp [gotoIn]
    exact ⟨_, a₁, cs₁, w₁, hl, hq, fun k' hk => .head h0 stepR_block (harr.1 k' (by rw [hx]; exact hk)),
      fun hr' hk => let ⟨k₁, h1, h2⟩ := harr.2 hr' (by rw [hx]; exact hk); ⟨k₁, h1, .head h0 stepR_block h2⟩⟩
  | ret => exact ⟨_, a₁, cs₁, w₁, hl, hq, .of_steps (.one h0 stepR_block) harr⟩
  | panic ch => exact ⟨_, a₁, cs₁, w₁, hl, hq, .of_steps (.one h0 stepR_block) harr⟩
  | outgrown => exact ⟨_, a₁, cs₁, w₁, hl, hq, .of_steps (.one h0 stepR_block) harr⟩

section
variable {C : Cx} {ρ ρ' : Pl} {h h' : Heap} {w w' : World} {t : Tm} {a : Act}

theorem codeS_sim {rc : Rec} {nt fn n : Nat} (hm : C.T.P.follows .mixedOrders = true) (hg : C.globOK) (hrc : RecOK C rc) (hrg : RangeOK C rc) {c₀ : Frame} {cs : List Frame} :
    ∀ (c : Code) {ac : ACode} {m m' : AMode} {s s' : St} {x : AX} {ρ : Pl} {a : Act} {u : FrameMode} {w : World} {Q : Exit → Act → List Frame → World → Prop}, codeA C.T nt fn c = some ac →
      evCodeS rc n ac m s = some (x, m', s') → StR C nt ρ s a w → ModeR C ρ m u →
      (∀ e a' u' w', EndSS C nt ρ s.h w x m' s' e a' u' w' → Q e a' ({ c₀ with mode := u' } :: cs) w') → c.wpSIn (wideAt none) 0 C.T.P Q a ({ c₀ with mode := u } :: cs) w := by
  have other : ∀ (c : Code) {ac : ACode} {m m' : AMode} {s s' : St} {x : AX} {ρ : Pl} {a : Act} {u : FrameMode} {w : World} {Q : Exit → Act → List Frame → World → Prop}, codeA C.T nt fn c = some ac →
      (evCode rc n ac s).map (fun (x, s') => (x, m, s')) = some (x, m', s') → StR C nt ρ s a w → ModeR C ρ m u →
      (∀ e a' u' w', EndSS C nt ρ s.h w x m' s' e a' u' w' → Q e a' ({ c₀ with mode := u' } :: cs) w') → c.wpSIn (wideAt none) 0 C.T.P Q a ({ c₀ with mode := u } :: cs) w := by
    intro c ac m m' s s' x ρ a u w Q hc hev hs hmo hq
    simp only [Option.map_eq_some_iff] at hev
    obtain ⟨⟨x1, s1⟩, hev, he⟩ := hev
    cases he
    refine wpSIn_of_wpIn rfl (code_sim hm hg hrc hrg c hc (.inl rfl) hev hs fun e a' w' ⟨ρ', k1, k2, k3⟩ => ?_)
    exact hq _ _ _ _ ⟨ρ', k1, k2, k3, hmo.mono k2.le⟩
  intro c
  induction c with
  | region id ops draw =>
    intro ac m m' s s' x ρ a u w Q hc hev hs hmo hq
    cases draw with
    | false =>
      have hc0 := hc
      simp only [codeA, Option.map_eq_some_iff] at hc
      obtain ⟨os, hos, rfl⟩ := hc
      simp only [evCodeS] at hev
      refine wpSIn_region ?_
      have hl := (opersA_get hos).1
      rw [List.range_eq_range', show ops.size = os.length by rw [hl]; simp]
      exact evOpersS_sim hg hos os.length 0 (by omega) (by simpa using hev) hs hmo hq
    | true =>
      have hc0 := hc
      simp only [codeA, Option.some.injEq] at hc
      cases hits : drawA C.T nt ops with
      | none => rw [hits] at hc; subst hc; simp only [drawOr, evCodeS, evCode, Option.map_none, reduceCtorEq] at hev
      | some its => rw [hits] at hc; simp only [drawOr] at hc; subst hc; exact other _ hc0 hev hs hmo hq
  | seq c1 c2 ih1 ih2 =>
    intro ac m m' s s' x ρ a u w Q hc hev hs hmo hq
    simp only [codeA] at hc
    split at hc <;> try (cases hc; done)
    rename_i a1 a2 h1 h2
    cases hc
    simp only [evCodeS] at hev
    cases hone : evCodeS rc n a1 m s with
    | none => rw [hone] at hev; cases hev
    | some r =>
      obtain ⟨x1, m1, s1⟩ := r
      rw [hone] at hev
      refine wpSIn_seq (ih1 h1 hone hs hmo fun e a' u' w' he => ?_)
      obtain ⟨ρ', k1, k2, k3, k4⟩ := he
      cases x1 with
      | nrm =>
        cases e <;> simp only [ExitR] at k1
        exact ih2 h2 hev k3 k4 fun e2 a2 u2 w2 he2 => hq _ _ _ _ (EndSS.exit k2 he2)
      | exit i => simp only [Option.some.injEq, Prod.mk.injEq] at hev; obtain ⟨rfl, rfl, rfl⟩ := hev; cases e <;> simp only [ExitR] at k1; exact hq _ _ _ _ ⟨ρ', k1, k2, k3, k4⟩
      | ret => simp only [Option.some.injEq, Prod.mk.injEq] at hev; obtain ⟨rfl, rfl, rfl⟩ := hev; cases e <;> simp only [ExitR] at k1; exact hq _ _ _ _ ⟨ρ', trivial, k2, k3, k4⟩
      | pan v => simp only [Option.some.injEq, Prod.mk.injEq] at hev; obtain ⟨rfl, rfl, rfl⟩ := hev; cases e <;> simp only [ExitR] at k1; exact hq _ _ _ _ ⟨ρ', k1, k2, k3, k4⟩
  | cond g c1 c2 ih1 ih2 =>
    intro ac m m' s s' x ρ a u w Q hc hev hs hmo hq
    simp only [codeA] at hc
    split at hc <;> try (cases hc; done)
    rename_i dg a1 a2 hgd h1 h2
    cases hc
    simp only [evCodeS] at hev
    have hv := opd_sim hg hs.tmps hgd
    split at hev <;> try (cases hev; done)
    · rename_i e; rw [e] at hv; simp only [VR] at hv
      exact wpSIn_cond hv (ih1 h1 hev hs hmo hq)
    · rename_i e; rw [e] at hv; simp only [VR] at hv
      exact wpSIn_cond hv (ih2 h2 hev hs hmo hq)
  | block id c ih =>
    intro ac m m' s s' x ρ a u w Q hc hev hs hmo hq
    simp only [codeA, Option.map_eq_some_iff] at hc
    obtain ⟨ab, hab, rfl⟩ := hc
    simp only [evCodeS] at hev
    cases hone : evCodeS rc n ab m s with
    | none => rw [hone] at hev; cases hev
    | some r =>
      obtain ⟨x1, m1, s1⟩ := r
      rw [hone] at hev
      refine wpSIn_block (ih hab hone hs hmo fun e a' u' w' he => ?_)
      obtain ⟨ρ', k1, k2, k3, k4⟩ := he
      cases x1 with
      | nrm => simp only [Option.some.injEq, Prod.mk.injEq] at hev; obtain ⟨rfl, rfl, rfl⟩ := hev; cases e <;> simp only [ExitR] at k1; exact hq _ _ _ _ ⟨ρ', trivial, k2, k3, k4⟩
      | exit i =>
        cases e <;> simp only [ExitR] at k1
        subst k1
        simp only [Exit.inBlockS]
        simp only at hev
        cases hb : Nat.beq i id with
        | true =>
          rw [hb] at hev; simp only [cond_true, Option.some.injEq, Prod.mk.injEq] at hev
          obtain ⟨rfl, rfl, rfl⟩ := hev
          rw [if_pos (Nat.eq_of_beq_eq_true hb)]
          exact hq _ _ _ _ ⟨ρ', trivial, k2, k3, k4⟩
        | false =>
          rw [hb] at hev; simp only [cond_false, Option.some.injEq, Prod.mk.injEq] at hev
          obtain ⟨rfl, rfl, rfl⟩ := hev
          rw [if_neg (fun e => by subst e; simp at hb)]
          exact hq _ _ _ _ ⟨ρ', rfl, k2, k3, k4⟩
      | ret => simp only [Option.some.injEq, Prod.mk.injEq] at hev; obtain ⟨rfl, rfl, rfl⟩ := hev; cases e <;> simp only [ExitR] at k1; exact hq _ _ _ _ ⟨ρ', trivial, k2, k3, k4⟩
      | pan v => simp only [Option.some.injEq, Prod.mk.injEq] at hev; obtain ⟨rfl, rfl, rfl⟩ := hev; cases e <;> simp only [ExitR] at k1; exact hq _ _ _ _ ⟨ρ', k1, k2, k3, k4⟩
  | skip => intro ac m m' s s' x ρ a u w Q hc hev hs hmo hq; have hc0 := hc; simp only [codeA, Option.some.injEq] at hc; subst hc; exact other _ hc0 hev hs hmo hq
  | label l => intro ac m m' s s' x ρ a u w Q hc hev hs hmo hq; have hc0 := hc; simp only [codeA, Option.some.injEq] at hc; subst hc; exact other _ hc0 hev hs hmo hq
  | goto l => intro ac m m' s s' x ρ a u w Q hc hev hs hmo hq; simp only [codeA, reduceCtorEq] at hc
  | exit id => intro ac m m' s s' x ρ a u w Q hc hev hs hmo hq; have hc0 := hc; simp only [codeA, Option.some.injEq] at hc; subst hc; exact other _ hc0 hev hs hmo hq
  | ret => intro ac m m' s s' x ρ a u w Q hc hev hs hmo hq; have hc0 := hc; simp only [codeA, Option.some.injEq] at hc; subst hc; exact other _ hc0 hev hs hmo hq
  | refuse why => intro ac m m' s s' x ρ a u w Q hc hev hs hmo hq; have hc0 := hc; simp only [codeA, Option.some.injEq] at hc; subst hc; exact other _ hc0 hev hs hmo hq
  | scope b _ =>
    intro ac m m' s s' x ρ a u w Q hc hev hs hmo hq
    have hc0 := hc
    simp only [codeA, Option.map_eq_some_iff] at hc
    obtain ⟨ab, hab, rfl⟩ := hc
    exact other _ hc0 hev hs hmo hq
  | loop b _ =>
    intro ac m m' s s' x ρ a u w Q hc hev hs hmo hq
    have hc0 := hc
    simp only [codeA, Option.map_eq_some_iff] at hc
    obtain ⟨ab, hab, rfl⟩ := hc
    exact other _ hc0 hev hs hmo hq
  | rangeFunc g ps assign body _ _ =>
    intro ac m m' s s' x ρ a u w Q hc hev hs hmo hq
    have hc0 := hc
    simp only [codeA] at hc
    split at hc <;> try (cases hc; done)
    split at hc <;> try (cases hc; done)
    cases hc
    exact other _ hc0 hev hs hmo hq

/-- all cells that there are -/
def cellsAll (w : World) : Stab := fun B d => if B < w.heap.size then w.cell? ⟨B, d, none⟩ else none

/-- where a program's variables lie with what they hold -/
def GlobAt (T : Tb) (w : World) : Prop := (∀ ρ g cs, T.G g = some cs → PC (cellsAll w) ρ g 0 cs) ∧ ∀ g cs, T.G g = some cs → cs ≠ [] → w.cell? ⟨g, cs.length, none⟩ = none

/-- nothing that there was is changed; what is handed back leads nowhere -/
def SpecR (w : World) (v : AV) : Ending → World → Prop := fun e w' => w.heap.size ≤ w'.heap.size ∧ (∀ B, B < w.heap.size → w'.heap[B]? = w.heap[B]?) ∧ (w'.os = w.os ∧ w'.output = w.output) ∧ ∃ x, e = .returned x ∧ ∀ st ρ, VR st ρ v x

def SpecOK (T : Tb) (f : Nat) (F : List AV → Option AV) : Prop := ∀ d v, F d = some v → ∀ w xs, GlobAt T w → VRs (cellsAll w) (fun _ => none) d xs →
  (∃ y w', (callFunc f xs.toArray).run T.P w = .ok (.value y) w' ∧ SpecR w v (.returned y) w' ∧ ∀ B, Value.func (.yield B) #[] #[] ∉ xs) ∨ ((callFunc f xs.toArray).run T.P w = .ok (.enter f xs.toArray) w ∧ CallsIn Fence.wide 0 T.P f xs.toArray w (SpecR w v))

/-- what turns the memory -/
def HSpecOK (T : Tb) (f : Nat) (F : List AV → Heap → Option (ARes × Heap)) : Prop := ∀ (C : Cx), C.T = T → C.globOK → ∀ args r h h' ρ w xs, F args h = some (r, h') → Rel C ρ h w → VRs C.st ρ args xs → WhoOK C (.fn f) xs ρ w (CallR C ρ h w r h')

/-- the abstract program stands for the model's -/
def FunOK (T : Tb) (f : Nat) (fa : AFun) : Prop := ((∃ F, fa = .spec F ∧ SpecOK T f F) ∨ (∃ F, fa = .hspec F ∧ HSpecOK T f F)) ∨
  ∃ fn, T.P.funcs[f]? = some fn ∧ (fn.name == "runtime.NumGoroutine") = false ∧ funA T f fn = some fa ∧ (fn.body.isNone = true → Extern.findNext fn = none)

def ProgOK (T : Tb) (prog : Nat → Option AFun) : Prop := ∀ f fa, prog f = some fa → FunOK T f fa

theorem ProgOK.body {T : Tb} {prog : Nat → Option AFun} (hp : ProgOK T prog) {f nt : Nat} {rs : List ARV} {rec : Bool} {ac : ACode} (hf : prog f = some (.body nt rs rec ac)) :
    ∃ fn c, T.P.funcs[f]? = some fn ∧ (fn.name == "runtime.NumGoroutine") = false ∧ fn.body = some c ∧ fn.ntmps = nt ∧ codeA T nt f c = some ac ∧ rvsA T.P fn.results.toList = some rs := by
  obtain ⟨fn, h1, h2, h3, _⟩ := (hp f _ hf).resolve_left (by rintro (⟨F, h, _⟩ | ⟨F, h, _⟩) <;> cases h)
  unfold funA at h3
  split at h3
  · simp only [Option.map_eq_some_iff] at h3
    obtain ⟨_, _, h3⟩ := h3
    cases h3
  · rename_i c hc
    split at h3 <;> try (cases h3; done)
    rename_i c' rs' hc' hrs'
    cases h3
    exact ⟨fn, c, h1, h2, hc, rfl, hc', hrs'⟩

theorem run_callFunc {P : Program} {f : FuncId} {fn : Func} {c : Code} {args : Array Value} (h1 : P.funcs[f]? = some fn) (h2 : (fn.name == "runtime.NumGoroutine") = false) (h3 : fn.body = some c) :
    (callFunc f args).run P w = .ok (.enter f args) w := by
  unfold callFunc
  simp only [Sem.run_bind, run_program, Result.andThen_ok, h1, h2, h3, Bool.false_eq_true, if_false, Option.isNone_some, Sem.run_pure]

theorem TR_start {st : Stab} {xs : List Value} {args : List AV} (hv : VRs st ρ args xs) (n : Nat) : TR st ρ (argsT args) (xs.toArray ++ Array.replicate n undef) := by
  intro i
  rw [getT_args]
  have hl := hv.length
  cases ha : args[i]? with
  | some v =>
    obtain ⟨x, hx, hvx⟩ := hv.get ha
    have hlt := (List.getElem?_eq_some_iff.1 hx).1
    simp only [Option.getD_some]
    rw [Array.getD_eq_getD_getElem?, Array.getElem?_append_left (by simpa using hlt)]
    simp [hx, hvx]
  | none =>
    have hge : args.length ≤ i := by simpa using ha
    simp only [Option.getD_none]
    have : (xs.toArray ++ Array.replicate n undef).getD i undef = undef := by
      rw [Array.getD_eq_getD_getElem?, Array.getElem?_append_right (by simp; omega)]
      cases hr : (Array.replicate n undef)[i - xs.toArray.size]? with
      | none => rfl
      | some y => rw [Array.getElem?_replicate] at hr; split at hr <;> simp_all
    rw [this]
    exact VR_undef

theorem StR.start {nt n : Nat} {args : List AV} {xs : List Value} (hr : Rel C ρ h w) (hv : VRs C.st ρ args xs) (hn : nt ≤ xs.length + n) (hb : C.base ≤ w.heap.size) :
    StR C nt ρ { t := argsT args, d := [], h := h } { tmps := xs.toArray ++ Array.replicate n undef, defers := [] } w :=
  ⟨hr, TR_start hv n, by simpa using hn, rfl, hb⟩

theorem takeDeferred_run {P : Program} {b : Nat} (hb : w.heap[b]? = some (.deferred (some []))) : (Instr.takeDeferred b).run P w = .ok [] (w.putObj b (.deferred none)) := by
  have hget : (getObj b).run P w = .ok (.deferred (some [])) w := by simp [getObj, Sem.run, hb]
  have hset : (setObj b (.deferred none)).run P w = .ok () (w.putObj b (.deferred none)) := by simp [setObj, Sem.run, hb, World.putObj]
  unfold Instr.takeDeferred
  simp only [Sem.run_bind, hget, Result.andThen_ok, hset, Sem.run_pure]

/-- a mark is shut -/
theorem Post.shut {ρ0 : Pl} {h0 : Heap} {w0 : World} (hp : Post C ρ0 h0 w0 ρ h w) {b : Nat} {o : Obj} (hb : w0.heap.size ≤ b) (hno : ∀ x m, ρ x ≠ some (b, m)) (hb0 : C.N0 ≤ w0.heap.size) : Post C ρ0 h0 w0 ρ h (w.putObj b o) := by
  have hr := hp.rel
  refine ⟨hp.le, ⟨hr.room, fun x B m hx => ?_, hr.inj, hr.ancs, fun B d y hy => ?_, by simpa using hr.base, ⟨hr.io.1, hr.io.2.1, fun B hB => (World.putObj_heap_other (show B ≠ b by omega)).trans (hr.io.2.2 B hB)⟩⟩, by simpa using hp.size, fun B hB hn => ?_, hp.new, hp.next, hp.old⟩
  · obtain ⟨k1, k2, ao, oo, k3, k4, k5⟩ := hr.dom x B m hx
    exact ⟨k1, k2, ao, oo, k3, by rw [World.putObj_heap_other (fun e => hno x m (by rw [hx, e]))]; exact k4, k5⟩
  · obtain ⟨k1, k2⟩ := hr.low B d y hy
    refine ⟨k1, ?_⟩
    rw [← k2]
    simp only [World.cell?]
    rw [World.putObj_heap_other (show B ≠ b by omega)]
  · rw [World.putObj_heap_other (show B ≠ b by omega)]
    exact hp.ext B hB hn

theorem deferred_sim {rc : Rec} {prog : Nat → Option AFun} {n f : Nat} {args : List AV} {m m' : AMode} {h' : Heap} {r : ARes} (hm : C.T.P.follows .mixedOrders = true) (hg : C.globOK) (hrc : RecOK C rc) (hrg : RangeOK C rc)
    (hpo : ProgOK C.T prog) (hev : evDeferred prog rc n f args m h = some (r, m', h')) {xs : List Value} (hr : Rel C ρ h w) (hv : VRs C.st ρ args xs) {u : FrameMode} (hmo : ModeR C ρ m u) (hb : C.base ≤ w.heap.size) :
    (callFunc f xs.toArray).run C.T.P w = .ok (.enter f xs.toArray) w ∧ CallsDIn (wideAt none) 0 C.T.P f xs.toArray u w fun e u' w' => ∃ ρ', Post C ρ h w ρ' h' w' ∧ EndR C ρ' r e ∧ ModeR C ρ' m' u' := by
  unfold evDeferred at hev
  split at hev <;> try (cases hev; done)
  rename_i nt rs rec ac hpf
  obtain ⟨fn, c, k1, k2, k3, k4, k5, k6⟩ := hpo.body hpf
  refine ⟨run_callFunc k1 k2 k3, callsDIn_of_wpSIn k1 k3 trivial fun c₀ cs hu => ?_⟩
  have hs : StR C nt ρ { t := argsT args, d := [], h := h } { tmps := xs.toArray ++ Array.replicate (fn.ntmps - xs.toArray.size) undef, defers := [] } w :=
    StR.start hr hv (by simp; omega) hb
  have hc0 : c₀ = { c₀ with mode := u } := by subst hu; rfl
  rw [hc0]
  split at hev
  · rename_i m1 s1 hev1
    split at hev <;> try (cases hev; done)
    rename_i hde
    simp only [Option.map_eq_some_iff] at hev
    obtain ⟨l, hl, he⟩ := hev
    cases he
    refine codeS_sim hm hg hrc hrg c k5 hev1 hs hmo fun e a' u' w' ⟨ρ', q1, q2, q3, q4⟩ => ?_
    cases e <;> simp only [ExitR] at q1
    have hd : a'.defers = [] := by have := q3.defers; rw [show s1.d = [] from by simpa using hde] at this; exact this.1
    obtain ⟨x, p1, p2⟩ := results_sim q3.rel k6 q3.tmps hl
    exact ⟨hd, u', rfl, x, p1, ρ', q2, p2, q4⟩
  · rename_i m1 s1 hev1
    split at hev <;> try (cases hev; done)
    rename_i hde
    simp only [Option.map_eq_some_iff] at hev
    obtain ⟨l, hl, he⟩ := hev
    cases he
    refine codeS_sim hm hg hrc hrg c k5 hev1 hs hmo fun e a' u' w' ⟨ρ', q1, q2, q3, q4⟩ => ?_
    cases e <;> simp only [ExitR] at q1
    have hd : a'.defers = [] := by have := q3.defers; rw [show s1.d = [] from by simpa using hde] at this; exact this.1
    obtain ⟨x, p1, p2⟩ := results_sim q3.rel k6 q3.tmps hl
    exact ⟨hd, u', rfl, x, p1, ρ', q2, p2, q4⟩
  · rename_i v m1 s1 hev1
    split at hev <;> try (cases hev; done)
    rename_i hde
    cases hev
    refine codeS_sim hm hg hrc hrg c k5 hev1 hs hmo fun e a' u' w' ⟨ρ', q1, q2, q3, q4⟩ => ?_
    cases e <;> simp only [ExitR] at q1
    have hd : a'.defers = [] := by have := q3.defers; rw [show s1.d = [] from by simpa using hde] at this; exact this.1
    obtain ⟨y, rfl, hy⟩ := q1
    exact ⟨hd, u', rfl, ρ', q2, ⟨y, rfl, hy⟩, q4⟩
  · cases hev

theorem CallsDIn.mono' {F : Fence} {n : Nat} {P : Program} {f : FuncId} {args : Array Value} {u : FrameMode} {w : World} {R R' : Ending → FrameMode → World → Prop} (h : CallsDIn F n P f args u w R) (hr : ∀ e u' w', R e u' w' → R' e u' w') :
    CallsDIn F n P f args u w R' :=
  ⟨h.1, fun c cs hu hroom => let ⟨e, u', w', fr, k1, k2⟩ := h.2 c cs hu hroom; ⟨e, u', w', fr, hr _ _ _ k1, k2⟩⟩

theorem leave_sim {rc : Rec} {prog : Nat → Option AFun} {n : Nat} {fn : Func} {rs : List ARV} {r : ARes} {tmps : Array Value} (hm : C.T.P.follows .mixedOrders = true) (hg : C.globOK) (hrc : RecOK C rc) (hrg : RangeOK C rc)
    (hpo : ProgOK C.T prog) (hrs : rvsA C.T.P fn.results.toList = some rs) {ρ0 : Pl} {h0 : Heap} {w0 : World} (hbase : C.base = w0.heap.size) (hN : C.N0 ≤ w0.heap.size) :
    ∀ (ds : List ADef) {m : AMode} {h : Heap} {w : World} {ρ : Pl} {u : FrameMode} {dds : List Deferred}, leaveA prog rc n rs t ds m h = some (r, h') → Post C ρ0 h0 w0 ρ h w → TR C.st ρ t tmps → DR C ρ w ds dds → ModeR C ρ m u →
      LeavesInM (wideAt none) 0 C.T.P fn tmps (CallR C ρ0 h0 w0 r h') dds u w
  | [], m, h, w, ρ, u, dds, hev, hp, ht, hd, hmo => by
    obtain ⟨rfl, _⟩ := hd
    cases m with
    | ret =>
      simp only [leaveA, Option.map_eq_some_iff] at hev
      obtain ⟨l, hl, he⟩ := hev
      cases he
      simp only [ModeR] at hmo; subst hmo
      obtain ⟨x, p1, p2⟩ := results_sim hp.rel hrs ht hl
      exact ⟨x, p1, ρ, hp, p2⟩
    | pan v =>
      simp only [leaveA] at hev
      cases hev
      obtain ⟨y, rfl, hy⟩ := hmo
      exact ⟨ρ, hp, y, rfl, hy⟩
    | recd v => simp only [leaveA] at hev; cases hev
  | .mark :: ds, m, h, w, ρ, u, dds, hev, hp, ht, hd, hmo => by
    have hev' : leaveA prog rc n rs t ds m h = some (r, h') := by cases m <;> simpa only [leaveA] using hev
    obtain ⟨b, rest, rfl, ⟨hb1, hb2⟩, hb3, hb4, hb5⟩ := hd
    have hu : u ≠ .run := by
      cases m with
      | ret => simp only [ModeR] at hmo; subst hmo; simp
      | pan v => obtain ⟨y, rfl, _⟩ := hmo; simp
      | recd v => obtain ⟨y, rfl, _⟩ := hmo; simp
    refine ⟨hu, .inl ⟨b, _, rfl, takeDeferred_run hb3, ?_⟩⟩
    exact leave_sim hm hg hrc hrg hpo hrs hbase hN ds hev' (hp.shut (by omega) hb4 hN) ht (DR.other hb5 hb2) hmo
  | .call f args :: ds, m, h, w, ρ, u, dds, hev, hp, ht, hd, hmo => by
    have hev' : (match evDeferred prog rc n f args m h with
      | some (.ret _, m', h') => leaveA prog rc n rs t ds (match m' with | .recd _ => .ret | m' => m') h'
      | some (.pan v, .ret, h') => leaveA prog rc n rs t ds (.pan v) h'
      | _ => none) = some (r, h') := by
      rw [← hev]
      cases m <;> (simp only [leaveA]; rfl)
    clear hev
    obtain ⟨xs, cap, rest, rfl, hv, hrest⟩ := hd
    have hxc : (xs ++ cap).toList.toArray = xs ++ cap := by simp
    have hu : u ≠ .run := by
      cases m with
      | ret => simp only [ModeR] at hmo; subst hmo; simp
      | pan v => obtain ⟨y, rfl, _⟩ := hmo; simp
      | recd v => obtain ⟨y, rfl, _⟩ := hmo; simp
    have hbw : C.base ≤ w.heap.size := by rw [hbase]; exact hp.size
    split at hev'
    · rename_i v m1 h1 hdv
      obtain ⟨k1, k2⟩ := deferred_sim hm hg hrc hrg hpo hdv hp.rel hv hmo hbw
      rw [hxc] at k1 k2
      refine ⟨hu, .inr ⟨(fun e => by cases e), .func f, cap, f, xs ++ cap, rfl, k1, fun _ _ => trivial, ?_⟩⟩
      refine CallsDIn.mono' k2 fun e u' w' he => ?_
      obtain ⟨ρ', q1, q2, q3⟩ := he
      cases e with
      | panicked ch => exact q2.elim
      | outgrown => exact q2.elim
      | returned y =>
        simp only
        have hs : ModeR C ρ' (match (generalizing := false) m1 with | .recd _ => .ret | m' => m') (settle u') := by
          cases m1 with
          | ret => simp only [ModeR] at q3; subst q3; rfl
          | pan v => obtain ⟨y, rfl, hy⟩ := q3; exact ⟨y, rfl, hy⟩
          | recd v => obtain ⟨y, rfl, hy⟩ := q3; rfl
        exact leave_sim hm hg hrc hrg hpo hrs hbase hN ds hev' (hp.trans q1) (ht.mono q1.le) (DR.mono q1 hrest) hs
    · rename_i v h1 hdv
      obtain ⟨k1, k2⟩ := deferred_sim hm hg hrc hrg hpo hdv hp.rel hv hmo hbw
      rw [hxc] at k1 k2
      refine ⟨hu, .inr ⟨(fun e => by cases e), .func f, cap, f, xs ++ cap, rfl, k1, fun _ _ => trivial, ?_⟩⟩
      refine CallsDIn.mono' k2 fun e u' w' he => ?_
      obtain ⟨ρ', q1, q2, q3⟩ := he
      cases e with
      | returned y => exact q2.elim
      | outgrown => exact q2.elim
      | panicked ch =>
        simp only
        obtain ⟨y, rfl, hy⟩ := q2
        simp only [ModeR] at q3; subst q3
        exact leave_sim hm hg hrc hrg hpo hrs hbase hN ds hev' (hp.trans q1) (ht.mono q1.le) (DR.mono q1 hrest) ⟨y, rfl, hy⟩
    · cases hev'
end
end Go.AM

/- A ROUND OF A RANGE OVER A FUNCTION; A FUNCTION'S BODY. -/
namespace Go.AM
section
variable {C : Cx} {ρ ρ' : Pl} {h h' : Heap} {w w' : World} {t : Tm} {a : Act}

/-! another base -/
def Cx.at (C : Cx) (n : Nat) : Cx := { C with base := n }

theorem Rel.rebase {n : Nat} (hr : Rel C ρ h w) : Rel (C.at n) ρ h w := ⟨hr.room, hr.dom, hr.inj, hr.ancs, hr.low, hr.base, hr.io⟩
theorem Rel.unbase {n : Nat} (hr : Rel (C.at n) ρ h w) : Rel C ρ h w := ⟨hr.room, hr.dom, hr.inj, hr.ancs, hr.low, hr.base, hr.io⟩
theorem Post.rebase {n : Nat} (hp : Post C ρ h w ρ' h' w') : Post (C.at n) ρ h w ρ' h' w' := ⟨hp.le, hp.rel.rebase, hp.size, hp.ext, hp.new, hp.next, hp.old⟩
theorem Post.unbase {n : Nat} (hp : Post (C.at n) ρ h w ρ' h' w') : Post C ρ h w ρ' h' w' := ⟨hp.le, hp.rel.unbase, hp.size, hp.ext, hp.new, hp.next, hp.old⟩

theorem EndR.rebase {n : Nat} {r : ARes} {e : Ending} (he : EndR C ρ r e) : EndR (C.at n) ρ r e := by
  cases r <;> cases e <;> exact he
theorem EndR.unbase {n : Nat} {r : ARes} {e : Ending} (he : EndR (C.at n) ρ r e) : EndR C ρ r e := by
  cases r <;> cases e <;> exact he

theorem WhoOK.mono {who : Who} {xs : List Value} {R R' : Ending → World → Prop} (hw : WhoOK C who xs ρ w R) (hr : ∀ e w', R e w' → R' e w') : WhoOK C who xs ρ w R' := by
  cases who with
  | fn f =>
    rcases hw with ⟨v, w', h1, h2, h3⟩ | ⟨h1, h2⟩
    · exact .inl ⟨v, w', h1, hr _ _ h2, h3⟩
    · exact .inr ⟨h1, CallsIn.mono h2 hr⟩
  | round b =>
    obtain ⟨B, m, g, tmps, assign, body, h1, h2, h3⟩ := hw
    exact ⟨B, m, g, tmps, assign, body, h1, h2, RoundIn.mono h3 hr⟩

theorem WhoOK.rebase {n : Nat} {who : Who} {xs : List Value} {R : Ending → World → Prop} (hw : WhoOK C who xs ρ w R) : WhoOK (C.at n) who xs ρ w R := by
  cases who <;> exact hw

theorem RecOK.rebase {rc : Rec} (n : Nat) (hrc : RecOK C rc) : RecOK (C.at n) rc := by
  intro who args h r h' ρ w xs hr hrel hv hin
  refine ((hrc who args h r h' ρ w xs hr hrel.unbase hv hin).mono fun e w' ⟨ρ', h1, h2⟩ => ?_).rebase
  exact ⟨ρ', h1.rebase, h2.rebase⟩

theorem body_ok {rc : Rec} {prog : Nat → Option AFun} {n f nt : Nat} {rs : List ARV} {ac : ACode} {args : List AV} {r : ARes} {xs : List Value} (hm : C.T.P.follows .mixedOrders = true) (hg : C.globOK) (hrc : RecOK C rc)
    (hpo : ProgOK C.T prog) (hpf : prog f = some (.body nt rs false ac))
    (hev : (match evCode rc n ac { t := argsT args, d := [], h := h } with
      | some (.nrm, s) => leaveA prog rc n rs s.t s.d .ret s.h
      | some (.ret, s) => leaveA prog rc n rs s.t s.d .ret s.h
      | some (.pan v, s) => leaveA prog rc n rs s.t s.d (.pan v) s.h
      | _ => none) = some (r, h')) (hr : Rel C ρ h w) (hv : VRs C.st ρ args xs) : WhoOK C (.fn f) xs ρ w (CallR C ρ h w r h') := by
  obtain ⟨fn, c, k1, k2, k3, k4, k5, k6⟩ := hpo.body hpf
  refine .inr ⟨run_callFunc k1 k2 k3, ?_⟩
  have hrc' := hrc.rebase w.heap.size
  have hrg' := range_ok (C := C.at w.heap.size) (show (C.at w.heap.size).globOK from hg) hrc'
  have hm' : (C.at w.heap.size).T.P.follows .mixedOrders = true := hm
  have hg' : (C.at w.heap.size).globOK := hg
  have hpo' : ProgOK (C.at w.heap.size).T prog := hpo
  have hs : StR (C.at w.heap.size) nt ρ { t := argsT args, d := [], h := h } { tmps := xs.toArray ++ Array.replicate (fn.ntmps - xs.toArray.size) undef, defers := [] } w :=
    StR.start hr.rebase hv (by simp; omega) (Nat.le_refl _)
  have fin : ∀ (e : Ending) (w' : World), CallR (C.at w.heap.size) ρ h w r h' e w' → CallR C ρ h w r h' e w' := fun e w' ⟨ρ', q1, q2⟩ => ⟨ρ', q1.unbase, q2.unbase⟩
  refine CallsIn.mono (show CallsIn (wideAt none) 0 C.T.P f xs.toArray w (CallR (C.at w.heap.size) ρ h w r h') from ?_) fin
  refine callsIn_of_wp_marks (fn := fn) k1 k3 trivial ?_
  split at hev
  · rename_i s1 hev1
    refine code_sim (C := C.at w.heap.size) hm' hg' hrc' hrg' c k5 (.inl rfl) hev1 hs fun e a' w' ⟨ρ', q1, q2, q3⟩ => ?_
    cases e <;> simp only [ExitR] at q1
    exact leave_sim (C := C.at w.heap.size) hm' hg' hrc' hrg' hpo' k6 rfl hr.base _ hev q2 q3.tmps q3.defers rfl
  · rename_i s1 hev1
    refine code_sim (C := C.at w.heap.size) hm' hg' hrc' hrg' c k5 (.inl rfl) hev1 hs fun e a' w' ⟨ρ', q1, q2, q3⟩ => ?_
    cases e <;> simp only [ExitR] at q1
    exact leave_sim (C := C.at w.heap.size) hm' hg' hrc' hrg' hpo' k6 rfl hr.base _ hev q2 q3.tmps q3.defers rfl
  · rename_i v s1 hev1
    refine code_sim (C := C.at w.heap.size) hm' hg' hrc' hrg' c k5 (.inl rfl) hev1 hs fun e a' w' ⟨ρ', q1, q2, q3⟩ => ?_
    cases e <;> simp only [ExitR] at q1
    obtain ⟨y, rfl, hy⟩ := q1
    exact leave_sim (C := C.at w.heap.size) hm' hg' hrc' hrg' hpo' k6 rfl hr.base _ hev q2 q3.tmps q3.defers ⟨y, rfl, hy⟩
  · cases hev

/-! a round -/
theorem TR.fold {st : Stab} : ∀ (ps : List Nat) {args : List AV} {xs : List Value} {t : Tm} {tmps : Array Value}, TR st ρ t tmps → VRs st ρ args xs → (∀ p ∈ ps, p < tmps.size) →
    TR st ρ ((ps.zip args).foldl (fun t (p, v) => setT t p v) t) ((ps.zip xs).foldl (fun tmps (t, a) => tmps.setIfInBounds t a) tmps) ∧ ((ps.zip xs).foldl (fun tmps (t, a) => tmps.setIfInBounds t a) tmps).size = tmps.size
  | [], args, xs, t, tmps, ht, hv, hp => by simpa using ht
  | p :: ps, [], xs, t, tmps, ht, hv, hp => by simp only [VRs] at hv; subst hv; simpa using ht
  | p :: ps, v :: args, xs, t, tmps, ht, hv, hp => by
    simp only [VRs] at hv
    obtain ⟨x, rest, rfl, h1, h2⟩ := hv
    simp only [List.zip_cons_cons, List.foldl_cons]
    have := TR.put ht h1 (d := some p) (fun j hj => by cases hj; exact hp _ (List.mem_cons_self ..))
    have h3 := TR.fold ps (tmps := tmps.setIfInBounds p x) (t := setT t p v) this h2 (fun q hq => by simpa using hp q (List.mem_cons_of_mem _ hq))
    refine ⟨h3.1, h3.2.trans (by simp)⟩

theorem run_yield {P : Program} {B : Nat} {L : Loop} {xs : List Value} (hB : w.heap[B]? = some (.loop L)) (hl : xs.length = L.params.size) :
    (Instr.yield B xs.toArray).run P w = .ok (.round B L.fn ((L.params.toList.zip xs).foldl (fun tmps (t, a) => tmps.setIfInBounds t a) L.tmps) L.assign L.body) w := by
  unfold Instr.yield
  have hz : (L.params.zip xs.toArray).foldl (fun (tmps : Array Value) (x : Tmp × Value) => tmps.setIfInBounds x.1 x.2) L.tmps = (L.params.toList.zip xs).foldl (fun tmps (t, a) => tmps.setIfInBounds t a) L.tmps := by
    rw [← Array.foldl_toList]
    simp
  simp only [Sem.run_bind, run_getLoop hB, Result.andThen_ok, List.size_toArray, hl, ne_eq, not_true_eq_false, if_false, Sem.run_pure]
  rw [← hz]

theorem run_beginRound {P : Program} {B : Nat} {L : Loop} (hB : w.heap[B]? = some (.loop L)) (hs : L.state = .ready) : (Instr.beginRound B).run P w = .ok () (w.putObj B (.loop { L with state := .busy })) := by
  unfold Instr.beginRound
  simp only [Sem.run_bind, run_getLoop hB, Result.andThen_ok, run_setObj_loop _ hB, hs, Sem.run_pure]

theorem run_endRound {P : Program} {B : Nat} {L : Loop} (j : Option Code) (hB : w.heap[B]? = some (.loop L)) :
    (Instr.endRound B j).run P w = .ok (.bool j.isNone) (w.putObj B (.loop { L with state := if j.isNone then .ready else .done, pending := j })) := by
  unfold Instr.endRound
  simp only [Sem.run_bind, run_getLoop hB, Result.andThen_ok, run_setObj_loop _ hB, Sem.run_pure]

theorem Post.loop {l B m : Nat} {r r' : LRec} {L' : Loop} (hr : Rel C ρ h w) (hl : ρ l = some (B, m)) (hg : h.get l = some (.loop r)) (hL : LR C.T C.st ρ r' L') :
    Post C ρ h w ρ (h.set l (.loop r')) (w.putObj B (.loop L')) := by
  have hroom := hr.room
  have hlt := (hr.dom l B m hl).1
  refine Post.put (ao := .loop r) (ao' := .loop r') hr hl hg rfl rfl (fun j hj hne => .inl ?_) ?_ rfl ⟨_, rfl, hL⟩ ?_
  · rw [Heap.get_set (by omega) hj, if_neg (fun e => hne e.symm)]
  · rw [Heap.get_set (by omega) (by omega), if_pos rfl]
  · intro b2 m2 ty cs frz anc n o h1 h2 h3 h4
    cases h4

theorem loop_at {l B m : Nat} {r : LRec} (hr : Rel C ρ h w) (hl : ρ l = some (B, m)) (hg : h.get l = some (.loop r)) : ∃ L, w.heap[B]? = some (.loop L) ∧ LR C.T C.st ρ r L := by
  obtain ⟨_, _, ao, oo, d3, d4, d5⟩ := hr.dom l _ _ hl
  rw [hg] at d3; cases d3
  obtain ⟨L2, rfl, hLR⟩ := d5
  exact ⟨L2, d4, hLR⟩

theorem round_ok {prog : Nat → Option AFun} {n l : Nat} {args : List AV} {r : ARes} {xs : List Value} (hm : C.T.P.follows .mixedOrders = true) (hg : C.globOK) (hrc : RecOK C (run prog n))
    (hev : run prog (n + 1) (.round l) args h = some (r, h')) (hr : Rel C ρ h w) (hv : VRs C.st ρ args xs) (hpl : ∃ x, ρ l = some x) : WhoOK C (.round l) xs ρ w (CallR C ρ h w r h') := by
  obtain ⟨⟨B, m⟩, hl⟩ := hpl
  simp only [run] at hev
  split at hev <;> try (cases hev; done)
  rename_i r0 hg0
  split at hev <;> try (cases hev; done)
  rename_i hst0
  split at hev <;> try (cases hev; done)
  rename_i hlen
  obtain ⟨L0, hB0, hLR0⟩ := loop_at hr hl hg0
  have hxl : xs.length = L0.params.size := by
    rw [hv.length, hlen, ← hLR0.params]; simp
  refine ⟨B, m, _, _, _, _, hl, run_yield hB0 hxl, roundIn_of_wpIn trivial ?_⟩
  have hrc' := hrc.rebase w.heap.size
  have hrg' := range_ok (C := C.at w.heap.size) (show (C.at w.heap.size).globOK from hg) hrc'
  have hm' : (C.at w.heap.size).T.P.follows .mixedOrders = true := hm
  have hg' : (C.at w.heap.size).globOK := hg
  obtain ⟨ht1, ht2⟩ := TR.fold L0.params.toList hLR0.tmps hv (fun p hp => by
    rw [hLR0.params] at hp
    exact Nat.lt_of_lt_of_le (hLR0.pok p hp) hLR0.room)
  rw [hLR0.params] at ht1 ht2
  have hs : StR (C.at w.heap.size) r0.nt ρ { t := (r0.params.zip args).foldl (fun t (p, v) => setT t p v) r0.t, d := [], h := h } { tmps := (L0.params.toList.zip xs).foldl (fun tmps (t, a) => tmps.setIfInBounds t a) L0.tmps, defers := [] } w :=
    ⟨hr.rebase, by rw [hLR0.params]; exact ht1, by rw [hLR0.params]; simp only; rw [ht2]; exact hLR0.room, rfl, Nat.le_refl _⟩
  split at hev <;> try (cases hev; done)
  rename_i s1 hev1
  split at hev <;> try (cases hev; done)
  rename_i r1 hg1
  split at hev <;> try (cases hev; done)
  rename_i hst1
  split at hev <;> try (cases hev; done)
  rename_i x s2 hev2
  split at hev <;> try (cases hev; done)
  rename_i hde
  split at hev <;> try (cases hev; done)
  rename_i r2 hg2
  refine code_sim (C := C.at w.heap.size) (ro := some B) hm' hg' hrc' hrg' L0.assign hLR0.assign (.inr hLR0.still.1) hev1 hs fun e1 a1 w1 ⟨ρ1, q1, q2, q3⟩ => ?_
  cases e1 <;> simp only [ExitR] at q1
  have hl1 : ρ1 l = some (B, m) := q2.le _ _ hl
  obtain ⟨L1, hB1, hLR1⟩ := loop_at (C := C.at w.heap.size) q3.rel hl1 hg1
  have hready : L1.state = .ready := by rw [hLR1.state, hst1]; rfl
  refine ⟨_, run_beginRound hB1 hready, ?_⟩
  have pb := Post.loop (C := C.at w.heap.size) (r' := { r1 with st := .busy }) (L' := { L1 with state := .busy }) q3.rel hl1 hg1 { hLR1 with state := rfl }
  refine code_sim (C := C.at w.heap.size) (ro := some B) hm' hg' hrc' hrg' L0.body hLR0.body (.inr hLR0.still.2) hev2 (q3.post pb) fun e2 a2 w2 ⟨ρ2, p1, p2, p3⟩ => ?_
  have hl2 : ρ2 l = some (B, m) := p2.le _ _ hl1
  obtain ⟨L2, hB2, hLR2⟩ := loop_at (C := C.at w.heap.size) p3.rel hl2 hg2
  have pall := (q2.trans pb).trans p2
  cases x with
  | nrm =>
    cases e2 <;> simp only [ExitR] at p1
    simp only [Option.some.injEq, Prod.mk.injEq] at hev
    obtain ⟨rfl, rfl⟩ := hev
    have pe := Post.loop (C := C.at w.heap.size) (r' := { r2 with st := .ready, pending := none }) (L' := { L2 with state := .ready, pending := none }) p3.rel hl2 hg2 { hLR2 with state := rfl, pending := rfl }
    exact ⟨_, _, run_endRound none hB2, ρ2, (pall.trans pe).unbase, rfl⟩
  | ret =>
    cases e2 <;> simp only [ExitR] at p1
    simp only [Option.some.injEq, Prod.mk.injEq] at hev
    obtain ⟨rfl, rfl⟩ := hev
    have pe := Post.loop (C := C.at w.heap.size) (r' := { r2 with st := .done, pending := some .ret }) (L' := { L2 with state := .done, pending := some .ret }) p3.rel hl2 hg2 { hLR2 with state := rfl, pending := rfl }
    exact ⟨_, _, run_endRound (some .ret) hB2, ρ2, (pall.trans pe).unbase, rfl⟩
  | exit id =>
    cases e2 <;> simp only [ExitR] at p1
    subst p1
    simp only [Option.some.injEq, Prod.mk.injEq] at hev
    obtain ⟨rfl, rfl⟩ := hev
    have pe := Post.loop (C := C.at w.heap.size) (r' := { r2 with st := .done, pending := some (.exit id) }) (L' := { L2 with state := .done, pending := some (.exit id) }) p3.rel hl2 hg2 { hLR2 with state := rfl, pending := rfl }
    exact ⟨_, _, run_endRound (some (.exit id)) hB2, ρ2, (pall.trans pe).unbase, rfl⟩
  | pan v => cases hev
end
end Go.AM

/- FUNCTIONS WITHOUT A BODY; A WHOLE RUN. -/
namespace Go.AM

theorem find_row {fn : Func} {n : String} {e : Array Value → Sem Value} (hn : fn.name = n) (h1 : Extern.allGenericRows.lookup n = none) (h2 : Extern.allTypedRows.lookup n = none) (h3 : Extern.allRows.lookup n = some e) : Extern.find fn = some e := by
  unfold Extern.find
  rw [hn]
  simp only [h1, h2, h3]
  rfl

theorem find_makeNoZero {fn : Func} (hn : fn.name = "internal/bytealg.MakeNoZero") : Extern.find fn = some (Extern.BytealgMakeNoZero.makeNoZero fn.params fn.resultTypes) := by
  unfold Extern.find
  have h1 : Extern.allGenericRows.lookup "internal/bytealg.MakeNoZero" = none := by kernel_rfl
  have h2 : Extern.allTypedRows.lookup "internal/bytealg.MakeNoZero" = some Extern.BytealgMakeNoZero.makeNoZero := by kernel_rfl
  rw [hn]
  simp only [h1, h2]
  rfl

theorem findB_eq (c : UInt8) : ∀ (l : List UInt8) (k : Nat), findB c l k = if Lib.indexByte l c = -1 then -1 else Lib.indexByte l c + k
  | [], k => by simp [findB, Lib.indexByte]
  | b :: l, k => by
    simp only [findB, Lib.indexByte]
    by_cases hb : b = c
    · simp [hb]
    · have hge := Lib.indexByte_ge l c
      have hb' : (b == c) = false := by simpa using hb
      rw [if_neg hb, findB_eq c l (k + 1)]
      simp only [hb', Bool.false_eq_true, if_false, beq_iff_eq]
      by_cases hi : Lib.indexByte l c = -1
      · simp [hi]
      · simp only [hi, if_false]
        rw [if_neg (by omega)]
        omega

theorem countB_eq (c : UInt8) : ∀ (l : List UInt8), countB c l = Lib.countByte l c
  | [] => rfl
  | b :: l => by
    have ih := countB_eq c l
    unfold Lib.countByte at ih ⊢
    simp only [countB, ih, List.count_cons, beq_iff_eq]
    by_cases hb : b = c
    · simp [hb]; omega
    · simp [hb]

theorem run_extLoad {P : Program} {w : World} {B : Nat} : ∀ (ns : List Int) (o : Nat) (acc : List UInt8), CellsAt w B o (ns.map (Value.int .u8)) →
    (Extern.Bytes.loadBytes ⟨B, o, none⟩ ns.length ⟨acc.toArray⟩).run P w = .ok ⟨(acc ++ ns.map fun n => UInt8.ofNat n.toNat).toArray⟩ w
  | [], o, acc, _ => by simp [Extern.Bytes.loadBytes]
  | n :: ns, o, acc, hc => by
    have h0 : w.cell? ⟨B, o, none⟩ = some (.int .u8 n) := by have := hc 0 (by simp); simpa using this
    have hp : (⟨acc.toArray⟩ : ByteArray).push n.toNat.toUInt8 = ⟨(acc ++ [UInt8.ofNat n.toNat]).toArray⟩ := by
      apply ByteArray.ext; simp [ByteArray.push]
    simp only [List.length_cons, Extern.Bytes.loadBytes, Sem.run_bind, run_load, h0, Result.andThen_ok, addr_add, hp]
    rw [run_extLoad ns (o + 1) _ (fun j hj => by
      have := hc (j + 1) (by simpa using hj)
      simp only [List.map_cons, List.getElem?_cons_succ] at this
      rw [← this]; congr 2; omega)]
    simp

theorem run_indexByte_of {P : Program} {w : World} {x : Value} {l : List UInt8} (c : Int) (hx : (Extern.Bytes.bytesOf x).run P w = .ok ⟨l.toArray⟩ w) :
    (Extern.BytealgIndexByte.indexByte #[x, .int .u8 c]).run P w = .ok (.int .i64 (Lib.indexByte l c.toNat.toUInt8)) w := by
  rw [← Lib.firstIdx_eq ⟨l.toArray⟩]
  change Sem.run P (do
    let b ← Extern.Bytes.bytesOf x
    let c' ← Extern.Bytes.asByte (.int .u8 c)
    match (List.range b.size).find? fun i => b[i]! == c' with
    | some i => pure (goInt i)
    | none => pure (goInt (-1))) w = _
  simp only [Sem.run_bind, hx, Extern.Bytes.asByte, firstIdx, Sem.run_pure, Result.andThen_ok]
  generalize List.find? _ _ = o
  cases o <;> rfl

section
variable {C : Cx} {ρ ρ' : Pl} {h h' : Heap} {w w' : World}

def ExtOK (C : Cx) (ρ : Pl) (h : Heap) (w : World) (s : Sem Value) (v : AV) (h' : Heap) : Prop :=
  ∃ ρ' x w', s.run C.T.P w = .ok x w' ∧ VR C.st ρ' v x ∧ Post C ρ h w ρ' h' w'

theorem makeNoZero_sim (hr : Rel C ρ h w) {ps : Array TypeId} {t e : TypeId} {b : Nat} {n : Int} (ht : C.T.P.underlying t = some (.slice e)) (h0 : 0 ≤ n ∧ n ≤ 1048576)
    (ha : newCells h e (List.replicate n.toNat .bot) = some (b, h')) : ExtOK C ρ h w (Extern.BytealgMakeNoZero.makeNoZero ps #[t] #[.int .i64 n]) (.slice b 0 n.toNat none 1) h' := by
  obtain ⟨cs, hrun, h1, h2, _⟩ := Lib.run_makeNoZero_cap (P := C.T.P) w ps t e ht n.toNat (by omega)
  have hn : ((n.toNat : Nat) : Int) = n := by omega
  rw [hn] at hrun
  have hd : w.drew.drew = { w with drawn := w.drawn + 2 } := rfl
  have hp0 : Post C ρ h w ρ h w.drew.drew := by rw [hd]; exact Post.drawn hr _
  have hcr : CR C.st ρ (List.replicate n.toNat .bot) cs.toList := by
    intro i a hi
    rw [List.getElem?_replicate] at hi
    split at hi <;> try (cases hi; done)
    rename_i hlt
    cases hi
    have : i < cs.toList.length := by rw [Array.length_toList]; omega
    exact ⟨cs.toList[i], List.getElem?_eq_getElem this, by simp only [VR]⟩
  obtain ⟨g1, g2, g3⟩ := new_sim (P := C.T.P) hp0.rel ha (xs := cs.toList) hcr (fun _ _ hin => by cases hin)
  have hcs : cs.toList.toArray = cs := by simp
  rw [hcs] at g2
  refine ⟨_, .slice (some ⟨w.heap.size, 0, none⟩) n.toNat cs.size, w.drew.drew.alloc (.cells cs e), hrun, ?_, hp0.trans g2⟩
  simp only [VR]
  exact ⟨_, _, cs.size, g3, rfl, h1, by simp, by have := h2 (by unfold maxLen; omega); unfold maxLen at this; omega⟩

theorem extBytes_sim (hr : Rel C ρ h w) {u : AV} {y : Value} {n : Nat} {cs : List AV} {l : List UInt8} (hu : VR C.st ρ u y) (hl : lenA u = some n) (hs : sourceA h 1 u n = some cs) (hb : AM.bytesOf cs = some l) :
    (Extern.Bytes.bytesOf y).run C.T.P w = .ok ⟨l.toArray⟩ w := by
  cases u <;> simp only [lenA, reduceCtorEq, Option.some.injEq] at hl
  case str s =>
    subst hl
    simp only [sourceA, List.take_length, Option.some.injEq] at hs
    subst hs
    simp only [VR] at hu; subst hu
    have key : ∀ s : List UInt8, AM.bytesOf (s.map byteA) = some s := by
      intro s
      induction s with
      | nil => rfl
      | cons b s ih => simp only [List.map_cons, byteA, AM.bytesOf, ih]; simp
    rw [key] at hb; cases hb
    rfl
  case nilslice =>
    subst hl
    simp only [sourceA, if_true, Option.some.injEq] at hs; subst hs
    simp only [AM.bytesOf, Option.some.injEq] at hb; subst hb
    simp only [VR] at hu; subst hu
    rfl
  case eslice =>
    subst hl
    simp only [sourceA, if_true, Option.some.injEq] at hs; subst hs
    simp only [AM.bytesOf, Option.some.injEq] at hb; subst hb
    simp only [VR] at hu; obtain ⟨ad, k, rfl⟩ := hu
    rfl
  case slice b o m c e =>
    subst hl
    simp only [sourceA] at hs
    split at hs <;> try (cases hs; done)
    simp only [VR] at hu; obtain ⟨B, tot, k, hbl, rfl, _, _⟩ := hu
    by_cases h0 : m = 0
    · rw [if_pos h0] at hs; cases hs
      simp only [AM.bytesOf, Option.some.injEq] at hb; subst hb
      subst h0
      rfl
    · rw [if_neg h0] at hs
      obtain ⟨xs, h1, h2, h3⟩ := read_sim hr hbl hs
      obtain ⟨ns, rfl, rfl⟩ := bytesOf_sim h2 hb
      have hm : ns.length = m := by simpa using h1
      have := run_extLoad (P := C.T.P) ns o [] h3
      rw [hm] at this
      simp only [List.nil_append] at this
      exact this
  case pslice cs0 o m c =>
    subst hl
    simp only [sourceA] at hs
    simp only [VR] at hu; obtain ⟨B, d, k, rfl, _, _, hp⟩ := hu
    by_cases h0 : m = 0
    · rw [if_pos h0] at hs; cases hs
      simp only [AM.bytesOf, Option.some.injEq] at hb; subst hb
      subst h0
      rfl
    · rw [if_neg h0] at hs
      obtain ⟨xs, h1, h2, h3⟩ := readP_sim hr hp hs
      obtain ⟨ns, rfl, rfl⟩ := bytesOf_sim h2 hb
      have hm : ns.length = m := by simpa using h1
      have := run_extLoad (P := C.T.P) ns (d + o) [] h3
      rw [hm] at this
      simp only [List.nil_append] at this
      exact this

theorem intr_ok {fn : Func} {i : Intr} {args : List AV} {xs : List Value} {v : AV} (hi : intrA C.T.P fn = some i) (hr : Rel C ρ h w) (hv : VRs C.st ρ args xs) (hev : evIntr i args h = some (v, h')) :
    ∃ e, Extern.find fn = some e ∧ ExtOK C ρ h w (e xs.toArray) v h' ∧ ∀ B, Value.func (.yield B) #[] #[] ∉ xs := by
  have one : ∀ x : Value, (∀ B, x ≠ .func (.yield B) #[] #[]) → ∀ B, Value.func (.yield B) #[] #[] ∉ [x] := fun x hx B hB => hx B (List.mem_singleton.1 hB).symm
  have two : ∀ x y : Value, (∀ B, x ≠ .func (.yield B) #[] #[]) → (∀ B, y ≠ .func (.yield B) #[] #[]) → ∀ B, Value.func (.yield B) #[] #[] ∉ [x, y] := fun x y hx hy B hB => by
    simp only [List.mem_cons, List.not_mem_nil, or_false] at hB
    rcases hB with h | h
    · exact hx B h.symm
    · exact hy B h.symm
  unfold intrA at hi
  split at hi <;> try (cases hi; done)
  · rename_i hn
    cases hi
    refine ⟨_, find_row hn (by kernel_rfl) (by kernel_rfl) (show Extern.allRows.lookup "internal/abi.NoEscape" = some Extern.AbiNoEscape.same by kernel_rfl), ?_⟩
    have key : ∀ (a : AV) (x : Value), VR C.st ρ a x → (∃ b o, a = .ptr b o) ∨ (∃ b o, a = .pptr b o) ∨ a = .nilptr → ∀ B, x ≠ .func (.yield B) #[] #[] := by
      rintro a x hx (⟨b, o, rfl⟩ | ⟨b, o, rfl⟩ | rfl) B rfl
      · simp only [VR] at hx; obtain ⟨_, _, _, hx⟩ := hx; cases hx
      · simp only [VR] at hx; obtain ⟨_, _, hx, _⟩ := hx; cases hx
      · simp only [VR] at hx; cases hx
    unfold evIntr at hev
    split at hev <;> first | (rename_i e1; cases e1; done) | skip
    · cases hev
      simp only [VRs] at hv
      obtain ⟨x, r, rfl, hx, rfl⟩ := hv
      exact ⟨⟨ρ, x, w, rfl, hx, Post.refl hr⟩, one x (key _ _ hx (.inl ⟨_, _, rfl⟩))⟩
    · cases hev
      simp only [VRs] at hv
      obtain ⟨x, r, rfl, hx, rfl⟩ := hv
      exact ⟨⟨ρ, x, w, rfl, hx, Post.refl hr⟩, one x (key _ _ hx (.inr (.inl ⟨_, _, rfl⟩)))⟩
    · cases hev
      simp only [VRs] at hv
      obtain ⟨x, r, rfl, hx, rfl⟩ := hv
      exact ⟨⟨ρ, x, w, rfl, hx, Post.refl hr⟩, one x (key _ _ hx (.inr (.inr rfl)))⟩
    · cases hev
  · rename_i hn
    split at hi <;> try (cases hi; done)
    rename_i t hrt
    split at hi <;> try (cases hi; done)
    rename_i el hu
    cases hi
    refine ⟨_, find_makeNoZero hn, ?_⟩
    have hrt' : fn.resultTypes = #[t] := arr1 hrt
    rw [hrt']
    unfold evIntr at hev
    split at hev <;> first | (rename_i e1; cases e1; done) | skip
    · rename_i ty n e1
      cases e1
      split at hev <;> try (cases hev; done)
      rename_i hb
      split at hev <;> try (cases hev; done)
      rename_i ha
      cases hev
      simp only [VRs] at hv
      obtain ⟨x, r, rfl, hx, rfl⟩ := hv
      simp only [VR] at hx; subst hx
      exact ⟨makeNoZero_sim hr hu hb ha, one _ (fun B h => by cases h)⟩
    · cases hev
  · rename_i hn
    cases hi
    refine ⟨_, find_row hn (by kernel_rfl) (by kernel_rfl) (show Extern.allRows.lookup "internal/bytealg.IndexByte" = some Extern.BytealgIndexByte.indexByte by kernel_rfl), ?_⟩
    unfold evIntr at hev
    split at hev <;> first | (rename_i e1; cases e1; done) | skip
    · rename_i y c e1
      split at hev <;> try (cases hev; done)
      rename_i n hl
      split at hev <;> try (cases hev; done)
      rename_i cs hs
      split at hev <;> try (cases hev; done)
      rename_i l hbl
      cases hev
      simp only [VRs] at hv
      obtain ⟨x, r, rfl, hx, z, r2, rfl, hz, rfl⟩ := hv
      simp only [VR] at hz; subst hz
      refine ⟨⟨ρ, _, w, run_indexByte_of c (extBytes_sim hr hx hl hs hbl), ?_, Post.refl hr⟩, two _ _ (fun B h => ?_) (fun B h => by cases h)⟩
      · simp only [VR, findB_eq]
        congr 1
        have : c.toNat.toUInt8 = UInt8.ofNat c.toNat := rfl
        rw [this]
        split
        · rename_i h; exact h
        · simp
      · subst h
        cases y <;> simp only [lenA, reduceCtorEq] at hl <;> simp only [VR] at hx
        · cases hx
        · cases hx
        · obtain ⟨_, _, _, _, hx, _⟩ := hx; cases hx
        · obtain ⟨_, _, _, hx, _⟩ := hx; cases hx
        · obtain ⟨_, _, hx⟩ := hx; cases hx
    · cases hev
  · rename_i hn
    cases hi
    refine ⟨_, find_row hn (by kernel_rfl) (by kernel_rfl) (show Extern.allRows.lookup "internal/bytealg.IndexByteString" = some Extern.BytealgIndexByte.indexByte by kernel_rfl), ?_⟩
    unfold evIntr at hev
    split at hev <;> first | (rename_i e1; cases e1; done) | skip
    · cases hev
      simp only [VRs] at hv
      obtain ⟨x, r, rfl, hx, z, r2, rfl, hz, rfl⟩ := hv
      simp only [VR] at hx hz; subst hx; subst hz
      refine ⟨⟨ρ, _, w, Lib.run_indexByteString _ _ w, ?_, Post.refl hr⟩, two _ _ (fun B h => by cases h) (fun B h => by cases h)⟩
      simp only [VR, findB_eq]
      congr 1
      rename_i s c _
      have : c.toNat.toUInt8 = UInt8.ofNat c.toNat := rfl
      rw [this]
      split
      · rename_i h; exact h
      · simp
    · cases hev
  · rename_i hn
    cases hi
    refine ⟨_, find_row hn (by kernel_rfl) (by kernel_rfl) (show Extern.allRows.lookup "internal/bytealg.CountString" = some Extern.BytealgCount.count by kernel_rfl), ?_⟩
    unfold evIntr at hev
    split at hev <;> first | (rename_i e1; cases e1; done) | skip
    · cases hev
      simp only [VRs] at hv
      obtain ⟨x, r, rfl, hx, z, r2, rfl, hz, rfl⟩ := hv
      simp only [VR] at hx hz; subst hx; subst hz
      refine ⟨⟨ρ, _, w, Lib.run_countString _ _ w, ?_, Post.refl hr⟩, two _ _ (fun B h => by cases h) (fun B h => by cases h)⟩
      simp only [VR, goI, countB_eq]
      try rfl
    · cases hev

theorem World.cell_ext {B d : Nat} {x : Value} (h1 : w'.heap[B]? = w.heap[B]?) (h2 : w.cell? ⟨B, d, none⟩ = some x) : w'.cell? ⟨B, d, none⟩ = some x := by
  rw [← h2]; simp only [World.cell?, h1]

theorem cellsAll_of {B d : Nat} {x : Value} (h1 : B < w.heap.size) (h2 : w.cell? ⟨B, d, none⟩ = some x) : cellsAll w B d = some x := by
  unfold cellsAll; rw [if_pos h1]; exact h2

theorem Rel.lowAll (hr : Rel C ρ h w) {B d : Nat} {x : Value} (hx : C.st B d = some x) : cellsAll w B d = some x := by
  obtain ⟨h1, h2⟩ := hr.low B d x hx
  exact cellsAll_of (by have := hr.base; omega) h2

section
variable {st st' : Stab}
mutual
theorem VR.stab (h : ∀ B d x, st B d = some x → st' B d = some x) : ∀ (a : AV) (v : Value), VR st ρ a v → VR st' ρ a v
  | .bot, _, _ => by simp only [VR]
  | .bool b, v, hv => by simpa only [VR] using hv
  | .int k n, v, hv => by simpa only [VR] using hv
  | .str s, v, hv => by simpa only [VR] using hv
  | .nilptr, v, hv => by simpa only [VR] using hv
  | .ptr b o, v, hv => by simpa only [VR] using hv
  | .pptr cs o, v, hv => by simp only [VR] at hv ⊢; obtain ⟨B, d, h1, h2⟩ := hv; exact ⟨B, d, h1, PC.stab h B d cs h2⟩
  | .nilslice, v, hv => by simpa only [VR] using hv
  | .slice b o n c e, v, hv => by simpa only [VR] using hv
  | .pslice cs o n c, v, hv => by simp only [VR] at hv ⊢; obtain ⟨B, d, k, h1, h2, h3, h4⟩ := hv; exact ⟨B, d, k, h1, h2, h3, PC.stab h B d cs h4⟩
  | .eslice, v, hv => by simpa only [VR] using hv
  | .nilmap, v, hv => by simpa only [VR] using hv
  | .map b, v, hv => by simpa only [VR] using hv
  | .func f a c, v, hv => by simp only [VR] at hv ⊢; obtain ⟨xs, ys, h1, h2, h3⟩ := hv; exact ⟨xs, ys, h1, VRs.stab h a xs h2, VRs.stab h c ys h3⟩
  | .yield l, v, hv => by simpa only [VR] using hv
  | .nilfunc, v, hv => by simpa only [VR] using hv
  | .iface t a, v, hv => by simp only [VR] at hv ⊢; obtain ⟨x, h1, h2⟩ := hv; exact ⟨x, h1, VR.stab h a x h2⟩
  | .niliface, v, hv => by simpa only [VR] using hv
  | .agg cs, v, hv => by simp only [VR] at hv ⊢; obtain ⟨x, h1, h2⟩ := hv; exact ⟨x, h1, VRs.stab h cs x h2⟩
  | .tuple cs, v, hv => by simp only [VR] at hv ⊢; obtain ⟨x, h1, h2⟩ := hv; exact ⟨x, h1, VRs.stab h cs x h2⟩
theorem VRs.stab (h : ∀ B d x, st B d = some x → st' B d = some x) : ∀ (l : List AV) (xs : List Value), VRs st ρ l xs → VRs st' ρ l xs
  | [], xs, hv => by simpa only [VRs] using hv
  | a :: l, xs, hv => by simp only [VRs] at hv ⊢; obtain ⟨x, r, h1, h2, h3⟩ := hv; exact ⟨x, r, h1, VR.stab h a x h2, VRs.stab h l r h3⟩
theorem PC.stab (h : ∀ B d x, st B d = some x → st' B d = some x) : ∀ (B d : Nat) (l : List AV), PC st ρ B d l → PC st' ρ B d l
  | B, d, [], _ => by simp only [PC]
  | B, d, a :: l, hv => by simp only [PC] at hv ⊢; obtain ⟨⟨x, h1, h2⟩, h3⟩ := hv; exact ⟨⟨x, h _ _ _ h1, VR.stab h a x h2⟩, PC.stab h B (d + 1) l h3⟩
end

theorem mapO_VRs {ρ1 : Pl} {f : AV → Option AV} : ∀ {l r : List AV} {xs : List Value}, (∀ v x d, f v = some d → VR st ρ v x → VR st' ρ1 d x) → mapO f l = some r → VRs st ρ l xs → VRs st' ρ1 r xs
  | [], r, xs, _, hm, hv => by simp only [mapO, Option.some.injEq] at hm; subst hm; simpa only [VRs] using hv
  | a :: l, r, xs, hf, hm, hv => by
    simp only [mapO] at hm
    split at hm <;> try (cases hm; done)
    rename_i d hd
    split at hm <;> try (cases hm; done)
    rename_i r' hr'
    cases hm
    simp only [VRs] at hv ⊢
    obtain ⟨x, rest, rfl, h1, h2⟩ := hv
    exact ⟨x, rest, rfl, hf _ _ _ hd h1, mapO_VRs hf hr' h2⟩

theorem mapO_PC {ρ1 : Pl} {f : AV → Option AV} (hs : ∀ B d x, st B d = some x → st' B d = some x) {B : Nat} : ∀ {l r : List AV} {d : Nat}, (∀ v x d, f v = some d → VR st ρ v x → VR st' ρ1 d x) → mapO f l = some r → PC st ρ B d l → PC st' ρ1 B d r
  | [], r, d, _, hm, hv => by simp only [mapO, Option.some.injEq] at hm; subst hm; simp only [PC]
  | a :: l, r, d, hf, hm, hv => by
    simp only [mapO] at hm
    split at hm <;> try (cases hm; done)
    rename_i a' hd
    split at hm <;> try (cases hm; done)
    rename_i r' hr'
    cases hm
    simp only [PC] at hv ⊢
    obtain ⟨⟨x, h1, h2⟩, h3⟩ := hv
    exact ⟨⟨x, hs _ _ _ h1, hf _ _ _ hd h2⟩, mapO_PC hs hf hr' h3⟩
end

theorem PC_of_cells {ρ1 : Pl} {B : Nat} (hB : B < w.heap.size) : ∀ {l : List AV} {xs : List Value} {o : Nat}, CellsAt w B o xs → VRs (cellsAll w) ρ1 l xs → PC (cellsAll w) ρ1 B o l
  | [], _, _, _, _ => by simp only [PC]
  | a :: l, xs, o, hc, hv => by
    simp only [VRs] at hv
    obtain ⟨x, r, rfl, h1, h2⟩ := hv
    simp only [PC]
    have h0 := hc 0 (by simp)
    refine ⟨⟨x, cellsAll_of hB (by simpa using h0), h1⟩, PC_of_cells hB (fun j hj => ?_) h2⟩
    have := hc (j + 1) (by simpa using hj)
    simp only [List.getElem?_cons_succ] at this
    rw [← this]; congr 2; omega

theorem deepV_sim (hr : Rel C ρ h w) : ∀ (n : Nat) (v : AV) (x : Value) (d : AV), deepV h n v = some d → VR C.st ρ v x → VR (cellsAll w) (fun _ => none) d x
  | 0, _, _, _, hd, _ => by simp only [deepV, reduceCtorEq] at hd
  | n + 1, v, x, d, hd, hv => by
    have ih := deepV_sim hr n
    have hs : ∀ B d x, C.st B d = some x → cellsAll w B d = some x := fun B d x hx => hr.lowAll hx
    cases v with
    | map b => simp only [deepV, reduceCtorEq] at hd
    | yield b => simp only [deepV, reduceCtorEq] at hd
    | ptr b o =>
      simp only [deepV] at hd
      split at hd <;> try (cases hd; done)
      rename_i ty cs own frz anc hb
      split at hd <;> try (cases hd; done)
      rename_i ds hds
      cases hd
      obtain ⟨B, m, h1, rfl⟩ := ptr_sim hv
      obtain ⟨_, hg⟩ := Heap.find_some.1 hb
      obtain ⟨_, _, ao, oo, h2, h3, h4⟩ := hr.dom b B m h1
      rw [hg] at h2; cases h2
      obtain ⟨xs, lo, hi, rfl, _, hcr, _⟩ := h4
      simp only [VR]
      refine ⟨B, 0, by simp, ?_⟩
      have hlen := hcr.length
      have hc : CellsAt w B 0 (xs.take cs.length) := fun j hj => by
        rw [Nat.zero_add, cell_of h3, List.getElem?_take, if_pos (by simp at hj; omega)]
      have hvr : VRs C.st ρ cs (xs.take cs.length) := VRs.of_get (by simp; omega) fun i a hi => by
        obtain ⟨y, hy, hv⟩ := hcr i a hi
        have hlt := (List.getElem?_eq_some_iff.1 hi).1
        exact ⟨y, by rw [List.getElem?_take, if_pos hlt]; exact hy, hv⟩
      exact PC_of_cells (hr.blt h1) hc (mapO_VRs ih hds hvr)
    | pptr cs o =>
      simp only [deepV] at hd
      split at hd <;> try (cases hd; done)
      rename_i ds hds
      cases hd
      simp only [VR] at hv ⊢
      obtain ⟨B, dd, h1, h2⟩ := hv
      exact ⟨B, dd, h1, mapO_PC hs ih hds h2⟩
    | slice b o m c e =>
      simp only [deepV] at hd
      split at hd <;> try (cases hd; done)
      rename_i cs hcs
      split at hd <;> try (cases hd; done)
      rename_i ds hds
      cases hd
      simp only [VR] at hv ⊢
      obtain ⟨B, tot, k, h1, rfl, h2, _⟩ := hv
      obtain ⟨xs, g1, g2, g3⟩ := read_sim hr h1 hcs
      exact ⟨B, o, k, by simp, h2, trivial, PC_of_cells (hr.blt h1) g3 (mapO_VRs ih hds g2)⟩
    | pslice cs o m c =>
      simp only [deepV] at hd
      split at hd <;> try (cases hd; done)
      rename_i ds hds
      cases hd
      simp only [VR] at hv ⊢
      obtain ⟨B, dd, k, h1, h2, h3, h4⟩ := hv
      exact ⟨B, dd, k, h1, h2, h3, mapO_PC hs ih hds h4⟩
    | func f a c =>
      simp only [deepV] at hd
      split at hd <;> try (cases hd; done)
      rename_i x1 y1 e1 e2
      cases hd
      simp only [VR] at hv ⊢
      obtain ⟨xs, ys, h1, h2, h3⟩ := hv
      exact ⟨xs, ys, h1, mapO_VRs ih e1 h2, mapO_VRs ih e2 h3⟩
    | iface t a =>
      simp only [deepV] at hd
      split at hd <;> try (cases hd; done)
      rename_i d1 e1
      cases hd
      simp only [VR] at hv ⊢
      obtain ⟨y, h1, h2⟩ := hv
      exact ⟨y, h1, ih _ _ _ e1 h2⟩
    | agg cs =>
      simp only [deepV] at hd
      split at hd <;> try (cases hd; done)
      rename_i ds hds
      cases hd
      simp only [VR] at hv ⊢
      obtain ⟨y, h1, h2⟩ := hv
      exact ⟨y, h1, mapO_VRs ih hds h2⟩
    | tuple cs =>
      simp only [deepV] at hd
      split at hd <;> try (cases hd; done)
      rename_i ds hds
      cases hd
      simp only [VR] at hv ⊢
      obtain ⟨y, h1, h2⟩ := hv
      exact ⟨y, h1, mapO_VRs ih hds h2⟩
    | _ => simp only [deepV, Option.some.injEq] at hd; subst hd; simpa only [VR] using hv

theorem Post.frame (hr : Rel C ρ h w) (h1 : w.heap.size ≤ w'.heap.size) (h2 : ∀ B, B < w.heap.size → w'.heap[B]? = w.heap[B]?) (h3 : w'.os = w.os ∧ w'.output = w.output) : Post C ρ h w ρ h w' := by
  refine ⟨Pl.le_refl _, ⟨hr.room, fun b B m hb => ?_, hr.inj, hr.ancs, fun B d x hx => ?_, by have := hr.base; omega, ⟨h3.1.trans hr.io.1, h3.2.trans hr.io.2.1, fun B hB => (h2 B (by have := hr.base; omega)).trans (hr.io.2.2 B hB)⟩⟩, h1, fun B hB _ => h2 B hB, (fun b B m g1 g2 => by rw [g1] at g2; cases g2), Nat.le_refl _, fun _ _ g => ⟨g, rfl⟩⟩
  · obtain ⟨k1, k2, ao, o, k3, k4, k5⟩ := hr.dom b B m hb
    exact ⟨k1, k2, ao, o, k3, by rw [h2 B (hr.blt hb)]; exact k4, k5⟩
  · obtain ⟨k1, k2⟩ := hr.low B d x hx
    exact ⟨k1, World.cell_ext (h2 B (by have := hr.base; omega)) k2⟩

theorem GlobAt.of (hg : C.globOK) (hr : Rel C ρ h w) : GlobAt C.T w := by
  refine ⟨fun ρ' g cs hc => PC.stab (fun _ _ _ hx => hr.lowAll hx) _ _ _ (hg.1 ρ' g cs hc), fun g cs hc hne => ?_⟩
  have h0 := hg.2 g cs hc hne
  have h1 := hg.1 ρ g cs hc
  cases cs with
  | nil => exact absurd rfl hne
  | cons a l =>
    simp only [PC] at h1
    obtain ⟨⟨x, hx, _⟩, _⟩ := h1
    have h2 := hr.io.2.2 g (hr.low g 0 x hx).1
    simp only [World.cell?] at h0 ⊢
    rw [h2]; exact h0

/-- a world with nothing of the abstract memory's -/
def Cx.fresh (T : Tb) (w : World) : Cx := { T := T, st := cellsAll w, N0 := w.heap.size, base := 0, w0 := w }

theorem Rel.fresh (T : Tb) (w : World) : Rel (Cx.fresh T w) (fun _ => Option.none) { next := 0, m := .nil } w where
  room := by simp
  dom := fun b B m hb => by cases hb
  inj := fun b1 b2 B m1 m2 o1 hb => by cases hb
  ancs := fun b B m o hb => by cases hb
  low := fun B d x hx => by
    simp only [Cx.fresh, cellsAll] at hx
    split at hx
    · rename_i hlt; exact ⟨hlt, hx⟩
    · cases hx
  base := Nat.le_refl _
  io := ⟨rfl, rfl, fun _ _ => rfl⟩

theorem run_ok {prog : Nat → Option AFun} (hm : C.T.P.follows .mixedOrders = true) (hg : C.globOK) (hpo : ProgOK C.T prog) : ∀ n, RecOK C (run prog n)
  | 0 => by
    intro who args h r h' ρ w xs hr
    cases who <;> simp only [run, reduceCtorEq] at hr
  | n + 1 => by
    intro who args h r h' ρ w xs hr hrel hv hin
    have ih := run_ok hm hg hpo n
    cases who with
    | round l => exact round_ok hm hg ih hr hrel hv hin
    | fn f =>
      simp only [run] at hr
      split at hr <;> try (cases hr; done)
      · rename_i nt rs c hf
        exact body_ok hm hg ih hpo hf hr hrel hv
      · rename_i i hf
        split at hr <;> try (cases hr; done)
        rename_i v h1 hev
        cases hr
        obtain ⟨fn, k1, k2, k3, k4⟩ := (hpo f _ hf).resolve_left (by rintro (⟨F, h, _⟩ | ⟨F, h, _⟩) <;> cases h)
        unfold funA at k3
        split at k3
        · rename_i hb
          simp only [Option.map_eq_some_iff] at k3
          obtain ⟨i', k3, k5⟩ := k3
          cases k5
          obtain ⟨e, e1, ⟨ρ', x, w', e2, e3, e4⟩, e5⟩ := intr_ok k3 hrel hv hev
          refine .inl ⟨x, w', ?_, ⟨ρ', e4, e3⟩, e5⟩
          rw [run_callFunc_extern k1 k2 (by rw [hb]; rfl) (k4 (by rw [hb]; rfl)) e1, e2]
          rfl
        · split at k3 <;> cases k3
      · rename_i F hf
        split at hr <;> try (cases hr; done)
        rename_i d hd
        split at hr <;> try (cases hr; done)
        rename_i v hF
        cases hr
        rcases hpo f _ hf with (⟨F', e, hsp⟩ | ⟨F', e, hsp⟩) | ⟨fn, _, _, k3, _⟩
        rotate_left
        · cases e
        · unfold funA at k3
          split at k3
          · simp only [Option.map_eq_some_iff] at k3; obtain ⟨_, _, k3⟩ := k3; cases k3
          · split at k3 <;> cases k3
        cases e
        have hdx : VRs (cellsAll w) (fun _ => none) d xs := mapO_VRs (deepV_sim hrel 12) hd hv
        have fin : ∀ e w', SpecR w v e w' → CallR C ρ h w (.ret v) h e w' := fun e w' ⟨q1, q2, q5, x, q3, q4⟩ => by
          subst q3
          exact ⟨ρ, Post.frame hrel q1 q2 q5, q4 _ _⟩
        rcases hsp d v hF w xs (GlobAt.of hg hrel) hdx with ⟨y, w', q1, q2, q3⟩ | ⟨q1, q2⟩
        · exact .inl ⟨y, w', q1, fin _ _ q2, q3⟩
        · exact .inr ⟨q1, CallsIn.mono q2 fin⟩
      · rename_i F hf
        rcases hpo f _ hf with (⟨F', e, hsp⟩ | ⟨F', e, hsp⟩) | ⟨fn, _, _, k3, _⟩
        · cases e
        · cases e
          exact hsp C rfl hg args r h h' ρ w xs hr hrel hv
        · unfold funA at k3
          split at k3
          · simp only [Option.map_eq_some_iff] at k3; obtain ⟨_, _, k3⟩ := k3; cases k3
          · split at k3 <;> cases k3

/-! What is proved of a function by its abstract runs -/
mutual
def pureV : AV → Bool
  | .bool _ | .int _ _ | .str _ | .nilptr | .nilslice | .nilmap | .nilfunc | .niliface => true
  | .iface _ v => pureV v
  | .agg cs => pureL cs
  | .tuple cs => pureL cs
  | _ => false
def pureL : List AV → Bool
  | [] => true
  | v :: l => pureV v && pureL l
end

mutual
theorem VR.pure {st st' : Stab} {ρ1 : Pl} : ∀ (a : AV) (v : Value), pureV a = true → VR st ρ a v → VR st' ρ1 a v
  | .bool b, v, _, hv => by simpa only [VR] using hv
  | .int k n, v, _, hv => by simpa only [VR] using hv
  | .str s, v, _, hv => by simpa only [VR] using hv
  | .nilptr, v, _, hv => by simpa only [VR] using hv
  | .nilslice, v, _, hv => by simpa only [VR] using hv
  | .nilmap, v, _, hv => by simpa only [VR] using hv
  | .nilfunc, v, _, hv => by simpa only [VR] using hv
  | .niliface, v, _, hv => by simpa only [VR] using hv
  | .iface t a, v, hp, hv => by simp only [pureV] at hp; simp only [VR] at hv ⊢; obtain ⟨x, h1, h2⟩ := hv; exact ⟨x, h1, VR.pure a x hp h2⟩
  | .agg cs, v, hp, hv => by simp only [pureV] at hp; simp only [VR] at hv ⊢; obtain ⟨x, h1, h2⟩ := hv; exact ⟨x, h1, VRs.pure cs x hp h2⟩
  | .tuple cs, v, hp, hv => by simp only [pureV] at hp; simp only [VR] at hv ⊢; obtain ⟨x, h1, h2⟩ := hv; exact ⟨x, h1, VRs.pure cs x hp h2⟩
theorem VRs.pure {st st' : Stab} {ρ1 : Pl} : ∀ (l : List AV) (xs : List Value), pureL l = true → VRs st ρ l xs → VRs st' ρ1 l xs
  | [], xs, _, hv => by simpa only [VRs] using hv
  | a :: l, xs, hp, hv => by simp only [pureL, Bool.and_eq_true] at hp; simp only [VRs] at hv ⊢; obtain ⟨x, r, h1, h2, h3⟩ := hv; exact ⟨x, r, h1, VR.pure a x hp.1 h2, VRs.pure l r hp.2 h3⟩
end

def emptyH : Heap := { next := 0, m := .nil }

/-- a run in an empty memory that hands back a value which leads nowhere -/
def Runs (prog : Nat → Option AFun) (f : Nat) (d : List AV) (v : AV) : Prop := pureV v = true ∧ ∃ n h, run prog n (.fn f) d emptyH = some (.ret v, h)

theorem spec_of_runs {T : Tb} {prog : Nat → Option AFun} {f : Nat} {F : List AV → Option AV} (hm : T.P.follows .mixedOrders = true) (hpo : ProgOK T prog) (hF : ∀ d v, F d = some v → Runs prog f d v) : SpecOK T f F := by
  intro d v hdv w xs hg hv
  obtain ⟨hp, n, h1, hrun⟩ := hF d v hdv
  have hok := run_ok (C := Cx.fresh T w) hm hg hpo n (.fn f) d emptyH (.ret v) h1 (fun _ => none) w xs hrun (Rel.fresh T w) hv trivial
  have fin : ∀ e w', CallR (Cx.fresh T w) (fun _ => none) emptyH w (.ret v) h1 e w' → SpecR w v e w' := fun e w' ⟨ρ', q1, q2⟩ => by
    cases e with
    | returned x => exact ⟨q1.size, fun B hB => q1.ext B hB (fun b m hb => by cases hb), ⟨q1.rel.io.1, q1.rel.io.2.1⟩, x, rfl, fun st ρ => VR.pure v x hp q2⟩
    | panicked ch => exact q2.elim
    | outgrown => exact q2.elim
  rcases hok with ⟨y, w', q1, q2, q3⟩ | ⟨q1, q2⟩
  · exact .inl ⟨y, w', q1, fin _ _ q2, q3⟩
  · exact .inr ⟨q1, CallsIn.mono q2 fin⟩
end
end Go.AM

/- PROGRAMS AS TREES; RUNS BY THE KERNEL. -/
namespace Go.AM

inductive PT where
  | nil
  | node (k : Nat) (a : AFun) (l r : PT)

def PT.get : PT → Nat → Option AFun
  | .nil, _ => none
  | .node k a l r, f => bif Nat.blt f k then l.get f else bif Nat.blt k f then r.get f else some a

def PT.OK (T : Tb) : PT → Prop
  | .nil => True
  | .node k a l r => l.OK T ∧ FunOK T k a ∧ r.OK T

theorem PT.ok {T : Tb} : ∀ {t : PT}, t.OK T → ProgOK T t.get
  | .nil, _, f, fa, h => by simp only [PT.get, reduceCtorEq] at h
  | .node k a l r, ⟨h1, h2, h3⟩, f, fa, h => by
    simp only [PT.get] at h
    cases hlt : Nat.blt f k with
    | true => rw [hlt] at h; exact PT.ok h1 f fa h
    | false =>
      rw [hlt] at h
      cases hgt : Nat.blt k f with
      | true => rw [hgt] at h; exact PT.ok h3 f fa h
      | false =>
        rw [hgt] at h
        simp only [cond_false, Option.some.injEq] at h
        subst h
        have e : f = k := by
          have h4 : ¬ f < k := fun h => by rw [Nat.blt_eq.mpr h] at hlt; cases hlt
          have h5 : ¬ k < f := fun h => by rw [Nat.blt_eq.mpr h] at hgt; cases hgt
          omega
        subst e; exact h2

/-- a program in which what is proved of some functions stands in the place of these -/
def withSpec (prog : Nat → Option AFun) (g : Nat) (F : List AV → Option AV) : Nat → Option AFun := fun f => bif Nat.beq f g then some (.spec F) else prog f

theorem withSpec_ok {T : Tb} {prog : Nat → Option AFun} {g : Nat} {F : List AV → Option AV} (hp : ProgOK T prog) (hs : SpecOK T g F) : ProgOK T (withSpec prog g F) := by
  intro f fa h
  unfold withSpec at h
  cases hb : Nat.beq f g with
  | true =>
    rw [hb] at h
    simp only [cond_true, Option.some.injEq] at h
    subst h
    have e : f = g := Nat.eq_of_beq_eq_true hb
    subst e
    exact .inl (.inl ⟨F, rfl, hs⟩)
  | false => rw [hb] at h; exact hp f fa h

def withHSpec (prog : Nat → Option AFun) (g : Nat) (F : List AV → Heap → Option (ARes × Heap)) : Nat → Option AFun := fun f => bif Nat.beq f g then some (.hspec F) else prog f

theorem withHSpec_ok {T : Tb} {prog : Nat → Option AFun} {g : Nat} {F : List AV → Heap → Option (ARes × Heap)} (hp : ProgOK T prog) (hs : HSpecOK T g F) : ProgOK T (withHSpec prog g F) := by
  intro f fa h
  unfold withHSpec at h
  cases hb : Nat.beq f g with
  | true =>
    rw [hb] at h
    simp only [cond_true, Option.some.injEq] at h
    subst h
    have e : f = g := Nat.eq_of_beq_eq_true hb
    subst e
    exact .inl (.inr ⟨F, rfl, hs⟩)
  | false => rw [hb] at h; exact hp f fa h

/-- whether a run in an empty memory hands back v -/
def runsB (prog : Nat → Option AFun) (n f : Nat) (d : List AV) (v : AV) : Bool := pureV v && match run prog n (.fn f) d emptyH with | some (.ret x, _) => sameA x v | _ => false

theorem runs_of {prog : Nat → Option AFun} {n f : Nat} {d : List AV} {v : AV} (h : runsB prog n f d v = true) : Runs prog f d v := by
  unfold runsB at h
  rw [Bool.and_eq_true] at h
  obtain ⟨h1, h2⟩ := h
  refine ⟨h1, n, ?_⟩
  split at h2
  · rename_i x hh hr
    rw [sameA_eq h2] at hr
    exact ⟨_, hr⟩
  · cases h2

/-- tables of strings with what is handed back at each -/
def lookS : List (List UInt8 × AV) → List UInt8 → Option AV
  | [], _ => none
  | (k, v) :: l, s => bif beqB k s then some v else lookS l s

def tabS (l : List (List UInt8 × AV)) : List AV → Option AV
  | [.str s] => lookS l s
  | _ => none

def AllRun (prog : Nat → Option AFun) (f : Nat) : List (List UInt8 × AV) → Prop
  | [] => True
  | (k, v) :: l => Runs prog f [.str k] v ∧ AllRun prog f l

theorem lookS_runs {prog : Nat → Option AFun} {f : Nat} : ∀ {l : List (List UInt8 × AV)} {s : List UInt8} {v : AV}, AllRun prog f l → lookS l s = some v → Runs prog f [.str s] v
  | [], _, _, _, h => by simp only [lookS, reduceCtorEq] at h
  | (k, x) :: l, s, v, ha, h => by
    simp only [lookS] at h
    cases hb : beqB k s with
    | true =>
      rw [hb] at h
      simp only [cond_true, Option.some.injEq] at h
      subst h
      have e : k = s := by rw [beqB_eq] at hb; simpa using hb
      subst e; exact ha.1
    | false => rw [hb] at h; exact lookS_runs ha.2 h

theorem tabS_ok {T : Tb} {prog : Nat → Option AFun} {f : Nat} {l : List (List UInt8 × AV)} (hm : T.P.follows .mixedOrders = true) (hp : ProgOK T prog) (ha : AllRun prog f l) : SpecOK T f (tabS l) :=
  spec_of_runs hm hp fun d v h => by
    unfold tabS at h
    split at h
    · exact lookS_runs ha h
    · cases h

/-- one call alone -/
def one (d0 : List AV) (v0 : AV) : List AV → Option AV := fun d => bif sameL d d0 then some v0 else none

theorem one_ok {T : Tb} {prog : Nat → Option AFun} {f : Nat} {d0 : List AV} {v0 : AV} (hm : T.P.follows .mixedOrders = true) (hp : ProgOK T prog) (hr : Runs prog f d0 v0) : SpecOK T f (one d0 v0) :=
  spec_of_runs hm hp fun d v h => by
    unfold one at h
    cases hb : sameL d d0 with
    | true =>
      rw [hb] at h
      simp only [cond_true, Option.some.injEq] at h
      subst h
      have e : d = d0 := sameL_eq hb
      subst e; exact hr
    | false => rw [hb] at h; cases h

/-- several calls -/
def anyOf : List (List AV × AV) → List AV → Option AV
  | [], _ => none
  | (k, v) :: l, d => bif sameL d k then some v else anyOf l d

def AllRuns (prog : Nat → Option AFun) (f : Nat) : List (List AV × AV) → Prop
  | [] => True
  | (k, v) :: l => Runs prog f k v ∧ AllRuns prog f l

theorem anyOf_ok {T : Tb} {prog : Nat → Option AFun} {f : Nat} {l : List (List AV × AV)} (hm : T.P.follows .mixedOrders = true) (hp : ProgOK T prog) (ha : AllRuns prog f l) : SpecOK T f (anyOf l) :=
  spec_of_runs hm hp fun d v h => by
    induction l with
    | nil => simp only [anyOf, reduceCtorEq] at h
    | cons kv l ih =>
      obtain ⟨k, x⟩ := kv
      simp only [anyOf] at h
      cases hb : sameL d k with
      | true =>
        rw [hb] at h
        simp only [cond_true, Option.some.injEq] at h
        subst h
        have e : d = k := sameL_eq hb
        subst e; exact ha.1
      | false => rw [hb] at h; exact ih ha.2 h
end Go.AM

/- MORE FUEL CHANGES NOTHING. -/
namespace Go.AM

def Rec.le (rc rc' : Rec) : Prop := ∀ who args h r, rc who args h = some r → rc' who args h = some r

theorem evOper_mono {rc rc' : Rec} (hl : Rec.le rc rc') {o : AOper} {s : St} {r : AX × St} (h : evOper rc o s = some r) : evOper rc' o s = some r := by
  unfold evOper at h ⊢
  split at h
  · rename_i hw
    try simp only [hw]
    split at h
    · rename_i f args hop
      try simp only
      split at h
      · rename_i w l hc
        try simp only [hc]
        split at h
        · rename_i v h1 hr; rw [hl _ _ _ _ hr]; exact h
        · rename_i v h1 hr; rw [hl _ _ _ _ hr]; exact h
        · cases h
      · cases h
    · exact h
    · exact h
    · exact h
    · exact h
  · rename_i hw; first | exact h | (simp only [hw]; exact h)
  · cases h

theorem evOpers_mono {rc rc' : Rec} (hl : Rec.le rc rc') : ∀ {os : List AOper} {s : St} {r : AX × St}, evOpers rc os s = some r → evOpers rc' os s = some r
  | [], s, r, h => h
  | o :: os, s, r, h => by
    simp only [evOpers] at h ⊢
    cases h1 : evOper rc o s with
    | none => rw [h1] at h; cases h
    | some r1 =>
      rw [h1] at h
      rw [evOper_mono hl h1]
      obtain ⟨x, s1⟩ := r1
      cases x with
      | nrm => exact evOpers_mono hl h
      | exit i => exact h
      | ret => exact h
      | pan v => exact h

theorem evDraw_mono {rc rc' : Rec} (hl : Rec.le rc rc') : ∀ {os : List (AOper × List AOper)} {s : St} {r : AX × St}, evDraw rc os s = some r → evDraw rc' os s = some r
  | [], s, r, h => h
  | (o, rs) :: os, s, r, h => by
    simp only [evDraw] at h ⊢
    cases h1 : evOper rc o s with
    | none => rw [h1] at h; cases h
    | some r1 =>
      rw [h1] at h
      rw [evOper_mono hl h1]
      obtain ⟨x, s1⟩ := r1
      cases x with
      | nrm =>
        simp only at h ⊢
        cases hb : checks s1 rs with
        | true => rw [hb] at h; exact evDraw_mono hl h
        | false => rw [hb] at h; cases h
      | exit i => exact h
      | ret => exact h
      | pan v => exact h

theorem evLoop_mono {f g : St → Option (AX × St)} (hfg : ∀ s r, f s = some r → g s = some r) : ∀ {n m : Nat}, n ≤ m → ∀ {s : St} {r : AX × St}, evLoop f n s = some r → evLoop g m s = some r
  | 0, _, _, _, _, h => by simp only [evLoop, reduceCtorEq] at h
  | n + 1, 0, hle, _, _, _ => by omega
  | n + 1, m + 1, hle, s, r, h => by
    simp only [evLoop] at h ⊢
    cases h1 : f s with
    | none => rw [h1] at h; cases h
    | some r1 =>
      rw [h1] at h
      rw [hfg _ _ h1]
      obtain ⟨x, s1⟩ := r1
      cases x with
      | nrm => exact evLoop_mono hfg (by omega) h
      | exit i => exact h
      | ret => exact h
      | pan v => exact h

theorem evCode_mono {rc rc' : Rec} (hl : Rec.le rc rc') {n m : Nat} (hnm : n ≤ m) : ∀ (c : ACode) {s : St} {r : AX × St}, evCode rc n c s = some r → evCode rc' m c s = some r := by
  intro c
  induction c with
  | skip => intro s r h; exact h
  | reg ops => intro s r h; exact evOpers_mono hl h
  | draw ops =>
    intro s r h
    simp only [evCode] at h ⊢
    cases h1 : evDraw rc ops s with
    | none => rw [h1] at h; cases h
    | some r1 => rw [h1] at h; rw [evDraw_mono hl h1]; exact h
  | seq a b iha ihb =>
    intro s r h
    simp only [evCode] at h ⊢
    cases h1 : evCode rc n a s with
    | none => rw [h1] at h; cases h
    | some r1 =>
      rw [h1] at h
      rw [iha h1]
      obtain ⟨x, s1⟩ := r1
      cases x with
      | nrm => exact ihb h
      | exit i => exact h
      | ret => exact h
      | pan v => exact h
  | cond c a b iha ihb =>
    intro s r h
    simp only [evCode] at h ⊢
    split at h <;> try (cases h; done)
    · rename_i hc; first | exact iha h | (simp only [hc]; exact iha h)
    · rename_i hc; first | exact ihb h | (simp only [hc]; exact ihb h)
  | block id b ih =>
    intro s r h
    simp only [evCode] at h ⊢
    cases h1 : evCode rc n b s with
    | none => rw [h1] at h; cases h
    | some r1 => rw [h1] at h; rw [ih h1]; exact h
  | loop b ih =>
    intro s r h
    simp only [evCode] at h ⊢
    exact evLoop_mono (fun s r hs => ih hs) hnm h
  | rangeF f ps nt fn a b _ _ =>
    intro s r h
    simp only [evCode] at h ⊢
    split at h <;> try (cases h; done)
    rename_i l h1 hal
    split at h <;> try (cases h; done)
    rename_i g first cap hf
    split at h <;> try (cases h; done)
    · rename_i v h2 hr
      rw [hl _ _ _ _ hr]
      exact h
    · rename_i v h2 hr
      rw [hl _ _ _ _ hr]
      exact h
  | exit id => intro s r h; exact h
  | scope b ih => intro s r h; simp only [evCode] at h ⊢; exact ih h
  | refuse => intro s r h; exact h
  | ret => intro s r h; exact h

theorem evCodeS_mono {rc rc' : Rec} (hl : Rec.le rc rc') {n m : Nat} (hnm : n ≤ m) : ∀ (c : ACode) {mo : AMode} {s : St} {r : AX × AMode × St}, evCodeS rc n c mo s = some r → evCodeS rc' m c mo s = some r := by
  have other : ∀ (c : ACode) {mo : AMode} {s : St} {r : AX × AMode × St}, (evCode rc n c s).map (fun (x, s') => (x, mo, s')) = some r → (evCode rc' m c s).map (fun (x, s') => (x, mo, s')) = some r := by
    intro c mo s r h
    cases h1 : evCode rc n c s with
    | none => rw [h1] at h; cases h
    | some r1 => rw [h1] at h; rw [evCode_mono hl hnm c h1]; exact h
  intro c
  induction c with
  | reg ops => intro mo s r h; exact h
  | seq a b iha ihb =>
    intro mo s r h
    simp only [evCodeS] at h ⊢
    cases h1 : evCodeS rc n a mo s with
    | none => rw [h1] at h; cases h
    | some r1 =>
      rw [h1] at h
      rw [iha h1]
      obtain ⟨x, mo1, s1⟩ := r1
      cases x with
      | nrm => exact ihb h
      | exit i => exact h
      | ret => exact h
      | pan v => exact h
  | cond c a b iha ihb =>
    intro mo s r h
    simp only [evCodeS] at h ⊢
    split at h <;> try (cases h; done)
    · rename_i hc; first | exact iha h | (simp only [hc]; exact iha h)
    · rename_i hc; first | exact ihb h | (simp only [hc]; exact ihb h)
  | block id b ih =>
    intro mo s r h
    simp only [evCodeS] at h ⊢
    cases h1 : evCodeS rc n b mo s with
    | none => rw [h1] at h; cases h
    | some r1 => rw [h1] at h; rw [ih h1]; exact h
  | skip => intro mo s r h; exact other _ h
  | draw ops => intro mo s r h; exact other (.draw ops) h
  | loop b _ => intro mo s r h; exact other (.loop b) h
  | rangeF f ps nt fn a b _ _ => intro mo s r h; exact other (.rangeF f ps nt fn a b) h
  | exit id => intro mo s r h; exact other (.exit id) h
  | scope b _ => intro mo s r h; exact other (.scope b) h
  | refuse => intro mo s r h; exact other .refuse h
  | ret => intro mo s r h; exact other .ret h

theorem evDeferred_mono {prog : Nat → Option AFun} {rc rc' : Rec} (hl : Rec.le rc rc') {n m : Nat} (hnm : n ≤ m) {f : Nat} {args : List AV} {mo : AMode} {h : Heap} {r : ARes × AMode × Heap} (hr : evDeferred prog rc n f args mo h = some r) :
    evDeferred prog rc' m f args mo h = some r := by
  unfold evDeferred at hr ⊢
  split at hr <;> try (cases hr; done)
  rename_i nt rs rec c hf
  try simp only
  cases h1 : evCodeS rc n c mo { t := argsT args, d := [], h := h } with
  | none => rw [h1] at hr; cases hr
  | some r1 => rw [h1] at hr; rw [evCodeS_mono hl hnm c h1]; exact hr

theorem leaveA_mono {prog : Nat → Option AFun} {rc rc' : Rec} (hl : Rec.le rc rc') {n m : Nat} (hnm : n ≤ m) {rs : List ARV} {t : Tm} : ∀ {ds : List ADef} {mo : AMode} {h : Heap} {r : ARes × Heap},
    leaveA prog rc n rs t ds mo h = some r → leaveA prog rc' m rs t ds mo h = some r
  | [], mo, h, r, hr => by cases mo <;> exact hr
  | .mark :: ds, mo, h, r, hr => by
    have h1 : leaveA prog rc n rs t ds mo h = some r := by cases mo <;> simpa only [leaveA] using hr
    have := leaveA_mono hl hnm h1
    cases mo <;> simpa only [leaveA] using this
  | .call f args :: ds, mo, h, r, hr => by
    have h1 : (match evDeferred prog rc n f args mo h with
      | some (.ret _, m', h') => leaveA prog rc n rs t ds (match m' with | .recd _ => .ret | m' => m') h'
      | some (.pan v, .ret, h') => leaveA prog rc n rs t ds (.pan v) h'
      | _ => none) = some r := by
      rw [← hr]; cases mo <;> (simp only [leaveA]; rfl)
    have h2 : leaveA prog rc' m rs t (.call f args :: ds) mo h = (match evDeferred prog rc' m f args mo h with
      | some (.ret _, m', h') => leaveA prog rc' m rs t ds (match m' with | .recd _ => .ret | m' => m') h'
      | some (.pan v, .ret, h') => leaveA prog rc' m rs t ds (.pan v) h'
      | _ => none) := by cases mo <;> (simp only [leaveA]; rfl)
    rw [h2]
    cases h3 : evDeferred prog rc n f args mo h with
    | none => rw [h3] at h1; cases h1
    | some r1 =>
      rw [h3] at h1
      rw [evDeferred_mono hl hnm h3]
      obtain ⟨x, m1, hh⟩ := r1
      cases x with
      | ret v => exact leaveA_mono hl hnm h1
      | pan v =>
        cases m1 with
        | ret => exact leaveA_mono hl hnm h1
        | pan u => cases h1
        | recd u => cases h1

theorem run_mono {prog : Nat → Option AFun} : ∀ {n m : Nat}, n ≤ m → Rec.le (run prog n) (run prog m)
  | 0, _, _, who, args, h, r, hr => by cases who <;> simp only [run, reduceCtorEq] at hr
  | n + 1, 0, hle, _, _, _, _, _ => by omega
  | n + 1, m + 1, hle, who, args, h, r, hr => by
    have ih := run_mono (prog := prog) (show n ≤ m by omega)
    have hnm : n ≤ m := by omega
    cases who with
    | fn f =>
      simp only [run] at hr ⊢
      split at hr <;> try (cases hr; done)
      · rename_i nt rs c hf
        try simp only
        cases h1 : evCode (run prog n) n c { t := argsT args, d := [], h := h } with
        | none => rw [h1] at hr; cases hr
        | some r1 =>
          rw [h1] at hr
          rw [evCode_mono ih hnm c h1]
          obtain ⟨x, s1⟩ := r1
          cases x with
          | nrm => exact leaveA_mono ih hnm hr
          | exit i => exact hr
          | ret => exact leaveA_mono ih hnm hr
          | pan v => exact leaveA_mono ih hnm hr
      · rename_i i hf; exact hr
      · rename_i F hf; exact hr
      · rename_i F hf; exact hr
    | round l =>
      simp only [run] at hr ⊢
      split at hr <;> try (cases hr; done)
      rename_i r0 hg0
      try simp only
      split at hr <;> try (cases hr; done)
      rename_i hst0
      try simp only
      split at hr <;> try (cases hr; done)
      rename_i hlen
      rw [if_pos hlen]
      split at hr <;> try (cases hr; done)
      rename_i s1 hev1
      rw [evCode_mono ih hnm _ hev1]
      try simp only
      split at hr <;> try (cases hr; done)
      rename_i r1 hg1
      try simp only
      split at hr <;> try (cases hr; done)
      rename_i hst1
      try simp only
      split at hr <;> try (cases hr; done)
      rename_i x s2 hev2
      rw [evCode_mono ih hnm _ hev2]
      exact hr
end Go.AM

/- HOW RUNS ON GENERAL INPUTS ARE SHOWN: total rules, one for each kind of code. -/
namespace Go.AM

/-- what is still to be done -/
inductive KF where
  | seq (c : ACode)
  | block (id : Nat)

def evK (rc : Rec) (n : Nat) : List KF → AX × St → Option (AX × St)
  | [], r => some r
  | .seq c :: k, (.nrm, s) => (evCode rc n c s).bind (evK rc n k)
  | .seq _ :: k, r => evK rc n k r
  | .block id :: k, (.exit i, s) => bif Nat.beq i id then evK rc n k (.nrm, s) else evK rc n k (.exit i, s)
  | .block _ :: k, r => evK rc n k r

theorem bind_some {α β : Type} {x : Option α} {f : α → Option β} {r : β} (h : x.bind f = some r) : ∃ a, x = some a ∧ f a = some r := by
  cases x with
  | none => cases h
  | some a => exact ⟨a, rfl, h⟩

theorem evK_mono {rc rc' : Rec} (hl : Rec.le rc rc') {n m : Nat} (hnm : n ≤ m) : ∀ {k : List KF} {r r' : AX × St}, evK rc n k r = some r' → evK rc' m k r = some r'
  | [], r, r', h => h
  | .seq c :: k, (x, s), r', h => by
    cases x with
    | nrm =>
      simp only [evK] at h ⊢
      obtain ⟨a, h1, h2⟩ := bind_some h
      rw [evCode_mono hl hnm c h1]
      exact evK_mono hl hnm h2
    | exit i => simp only [evK] at h ⊢; exact evK_mono hl hnm h
    | ret => simp only [evK] at h ⊢; exact evK_mono hl hnm h
    | pan v => simp only [evK] at h ⊢; exact evK_mono hl hnm h
  | .block id :: k, (x, s), r', h => by
    cases x with
    | nrm => simp only [evK] at h ⊢; exact evK_mono hl hnm h
    | exit i =>
      simp only [evK] at h ⊢
      cases hb : Nat.beq i id with
      | true => rw [hb] at h; exact evK_mono hl hnm h
      | false => rw [hb] at h; exact evK_mono hl hnm h
    | ret => simp only [evK] at h ⊢; exact evK_mono hl hnm h
    | pan v => simp only [evK] at h ⊢; exact evK_mono hl hnm h

variable {prog : Nat → Option AFun}

def Ev (prog : Nat → Option AFun) (c : ACode) (k : List KF) (s : St) (Q : AX → St → Prop) : Prop :=
  ∃ n r, (evCode (run prog n) n c s).bind (evK (run prog n) n k) = some r ∧ Q r.1 r.2

def EvX (prog : Nat → Option AFun) (k : List KF) (x : AX) (s : St) (Q : AX → St → Prop) : Prop := ∃ n r, evK (run prog n) n k (x, s) = some r ∧ Q r.1 r.2

/-- a call -/
def CallA (prog : Nat → Option AFun) (who : Who) (l : List AV) (h : Heap) (P : ARes → Heap → Prop) : Prop := ∃ n r h', run prog n who l h = some (r, h') ∧ P r h'

theorem CallA.mono {who : Who} {l : List AV} {h : Heap} {P P' : ARes → Heap → Prop} (hc : CallA prog who l h P) (hp : ∀ r h', P r h' → P' r h') : CallA prog who l h P' :=
  let ⟨n, r, h', h1, h2⟩ := hc; ⟨n, r, h', h1, hp _ _ h2⟩

section
variable {k : List KF} {s : St} {Q : AX → St → Prop} {t : Tm} {d : List ADef} {h : Heap}

theorem Ev_seq {a b : ACode} : Ev prog (.seq a b) k s Q ↔ Ev prog a (.seq b :: k) s Q := by
  have : ∀ n, (evCode (run prog n) n (.seq a b) s).bind (evK (run prog n) n k) = (evCode (run prog n) n a s).bind (evK (run prog n) n (.seq b :: k)) := by
    intro n
    simp only [evCode]
    cases evCode (run prog n) n a s with
    | none => rfl
    | some r => obtain ⟨x, s1⟩ := r; cases x <;> simp only [Option.bind_some, evK]
  simp only [Ev, this]

theorem Ev_block {id : Nat} {b : ACode} : Ev prog (.block id b) k s Q ↔ Ev prog b (.block id :: k) s Q := by
  have : ∀ n, (evCode (run prog n) n (.block id b) s).bind (evK (run prog n) n k) = (evCode (run prog n) n b s).bind (evK (run prog n) n (.block id :: k)) := by
    intro n
    simp only [evCode]
    cases evCode (run prog n) n b s with
    | none => rfl
    | some r =>
      obtain ⟨x, s1⟩ := r
      cases x <;> simp only [Option.bind_some, evK]
      rename_i i
      cases Nat.beq i id <;> simp only [cond_true, cond_false, Option.bind_some]
  simp only [Ev, this]

theorem Ev_scope {b : ACode} : Ev prog (.scope b) k s Q ↔ Ev prog b k s Q := Iff.rfl
theorem Ev_skip : Ev prog .skip k s Q ↔ EvX prog k .nrm s Q := Iff.rfl
theorem Ev_exit {id : Nat} : Ev prog (.exit id) k s Q ↔ EvX prog k (.exit id) s Q := Iff.rfl
theorem Ev_ret : Ev prog .ret k s Q ↔ EvX prog k .ret s Q := Iff.rfl
theorem Ev_reg_nil : Ev prog (.reg []) k s Q ↔ EvX prog k .nrm s Q := Iff.rfl

theorem EvX_nil {x : AX} : EvX prog [] x s Q ↔ Q x s := ⟨fun ⟨_, r, h, q⟩ => by simp only [evK, Option.some.injEq] at h; subst h; exact q, fun q => ⟨0, (x, s), rfl, q⟩⟩
theorem EvX_seq_nrm {c : ACode} : EvX prog (.seq c :: k) .nrm s Q ↔ Ev prog c k s Q := Iff.rfl
theorem EvX_seq_exit {c : ACode} {i : Nat} : EvX prog (.seq c :: k) (.exit i) s Q ↔ EvX prog k (.exit i) s Q := Iff.rfl
theorem EvX_seq_ret {c : ACode} : EvX prog (.seq c :: k) .ret s Q ↔ EvX prog k .ret s Q := Iff.rfl
theorem EvX_seq_pan {c : ACode} {v : AV} : EvX prog (.seq c :: k) (.pan v) s Q ↔ EvX prog k (.pan v) s Q := Iff.rfl
theorem EvX_block_nrm {id : Nat} : EvX prog (.block id :: k) .nrm s Q ↔ EvX prog k .nrm s Q := Iff.rfl
theorem EvX_block_ret {id : Nat} : EvX prog (.block id :: k) .ret s Q ↔ EvX prog k .ret s Q := Iff.rfl
theorem EvX_block_pan {id : Nat} {v : AV} : EvX prog (.block id :: k) (.pan v) s Q ↔ EvX prog k (.pan v) s Q := Iff.rfl
theorem EvX_block_exit {id i : Nat} : EvX prog (.block id :: k) (.exit i) s Q ↔ if i = id then EvX prog k .nrm s Q else EvX prog k (.exit i) s Q := by
  by_cases e : i = id
  · subst e; rw [if_pos rfl]; simp only [EvX, evK, Nat.beq_refl, cond_true]
  · rw [if_neg e]
    have : Nat.beq i id = false := by
      cases hb : Nat.beq i id with
      | false => rfl
      | true => exact absurd (Nat.eq_of_beq_eq_true hb) e
    simp only [EvX, evK, this, cond_false]

theorem EvX_pan {v : AV} : ∀ {k : List KF}, EvX prog k (.pan v) s Q ↔ Q (.pan v) s
  | [] => EvX_nil
  | .seq _ :: k => EvX_seq_pan.trans EvX_pan
  | .block _ :: k => EvX_block_pan.trans EvX_pan

/-- by a bool -/
def condA (v : AV) (P R : Prop) : Prop := match v with | .bool b => if b = true then P else R | _ => False

theorem condA_bool {b : Bool} {P R : Prop} : condA (.bool b) P R ↔ if b = true then P else R := Iff.rfl

theorem Ev_cond {c : Opd} {a b : ACode} : Ev prog (.cond c a b) k ⟨t, d, h⟩ Q ↔ condA (c.ev t) (Ev prog a k ⟨t, d, h⟩ Q) (Ev prog b k ⟨t, d, h⟩ Q) := by
  unfold Ev condA
  simp only [evCode]
  cases c.ev t with
  | bool x => cases x <;> simp
  | _ => simp

/-- what an operation hands on -/
def someA (r : Option (AV × Heap)) (P : AV → Heap → Prop) : Prop := match r with | some (v, h) => P v h | none => False

theorem someA_some {v : AV} {h : Heap} {P : AV → Heap → Prop} : someA (some (v, h)) P ↔ P v h := Iff.rfl

theorem Ev_op {dst : Option Nat} {op : AOp} {os : List AOper} (hp : op.plain = true) : Ev prog (.reg (⟨dst, none, op⟩ :: os)) k ⟨t, d, h⟩ Q ↔ someA (evOp op t h) fun v h' => Ev prog (.reg os) k ⟨putD t dst v, d, h'⟩ Q := by
  unfold Ev someA
  simp only [evCode, evOpers, evOper_plain hp, wantedA]
  cases evOp op t h with
  | none => simp
  | some r => obtain ⟨v, h'⟩ := r; simp

/-- by whether an operation is wanted -/
def wantA (v : AV) (b : Bool) (P R : Prop) : Prop := match v with | .bool c => if c = b then P else R | .tuple [] => R | _ => False

theorem wantA_bool {c b : Bool} {P R : Prop} : wantA (.bool c) b P R ↔ if c = b then P else R := Iff.rfl
theorem wantA_undef {b : Bool} {P R : Prop} : wantA undefA b P R ↔ R := Iff.rfl

theorem Ev_opg {dst : Option Nat} {op : AOp} {os : List AOper} {j : Nat} {b : Bool} (hp : op.plain = true) : Ev prog (.reg (⟨dst, some (j, b), op⟩ :: os)) k ⟨t, d, h⟩ Q ↔
    wantA (getT t j) b (someA (evOp op t h) fun v h' => Ev prog (.reg os) k ⟨putD t dst v, d, h'⟩ Q) (Ev prog (.reg os) k ⟨putD t dst undefA, d, h⟩ Q) := by
  unfold Ev someA wantA
  simp only [evCode, evOpers, evOper_plain hp, wantedA]
  cases hg : getT t j with
  | bool c =>
    simp only
    by_cases hcb : c = b
    · subst hcb
      simp only [beq_self_eq_true, if_true]
      cases evOp op t h with
      | none => simp
      | some r => obtain ⟨v, h'⟩ := r; simp
    · have hb : (c == b) = false := by simpa using hcb
      simp only [hb, hcb, if_false]
  | tuple l => cases l <;> simp
  | _ => simp

theorem Ev_panic {os : List AOper} {x : Opd} {ty : Nat} {v : AV} (hx : x.ev t = .iface ty v) : Ev prog (.reg (⟨none, none, .panic x⟩ :: os)) k ⟨t, d, h⟩ Q ↔ Q (.pan (.iface ty v)) ⟨t, d, h⟩ := by
  refine Iff.trans ?_ (EvX_pan (prog := prog) (k := k))
  have : ∀ n, evCode (run prog n) n (.reg (⟨none, none, .panic x⟩ :: os)) ⟨t, d, h⟩ = some (.pan (.iface ty v), ⟨t, d, h⟩) := by
    intro n
    simp only [evCode, evOpers, evOper, wantedA, hx]
  simp only [Ev, this, Option.bind_some, EvX]

/-- a call: what it hands back goes to dst; what it panics with goes on -/
theorem Ev_call {dst : Option Nat} {f : Opd} {args : List Opd} {os : List AOper} {who : Who} {l : List AV} {P : ARes → Heap → Prop} (hc : calleeA (f.ev t) (evalAll t args) = some (who, l)) (h1 : CallA prog who l h P)
    (h2 : ∀ v h', P (.ret v) h' → Ev prog (.reg os) k ⟨putD t dst v, d, h'⟩ Q) (h3 : ∀ v h', P (.pan v) h' → Q (.pan v) ⟨t, d, h'⟩) : Ev prog (.reg (⟨dst, none, .callv f args⟩ :: os)) k ⟨t, d, h⟩ Q := by
  obtain ⟨n1, r, h', hr, hp⟩ := h1
  cases r with
  | pan v =>
    obtain ⟨n2, r2, h4, h5⟩ := (EvX_pan (prog := prog) (k := k) (s := ⟨t, d, h'⟩)).2 (h3 v h' hp)
    refine ⟨max n1 n2, r2, ?_, h5⟩
    simp only [evCode, evOpers, evOper, wantedA, hc, run_mono (Nat.le_max_left n1 n2) _ _ _ _ hr, Option.bind_some]
    exact evK_mono (run_mono (Nat.le_max_right n1 n2)) (Nat.le_max_right n1 n2) h4
  | ret v =>
    obtain ⟨n2, r2, h4, h5⟩ := h2 v h' hp
    refine ⟨max n1 n2, r2, ?_, h5⟩
    obtain ⟨a, h6, h7⟩ := bind_some h4
    have h8 := evCode_mono (run_mono (prog := prog) (Nat.le_max_right n1 n2)) (Nat.le_max_right n1 n2) _ h6
    simp only [evCode] at h8
    simp only [evCode, evOpers, evOper, wantedA, hc, run_mono (Nat.le_max_left n1 n2) _ _ _ _ hr, h8, Option.bind_some]
    exact evK_mono (run_mono (Nat.le_max_right n1 n2)) (Nat.le_max_right n1 n2) h7

/-- a loop: what holds at each round's head, and what goes down -/
theorem Ev_loop {b : ACode} (I : St → Prop) (μ : St → Nat) (hI : I s) (step : ∀ s, I s → Ev prog b [] s (fun x s' => match x with | .nrm => I s' ∧ μ s' < μ s | x => EvX prog k x s' Q)) : Ev prog (.loop b) k s Q := by
  have key : ∀ (m : Nat) (s : St), I s → μ s < m → ∃ n r, (evLoop (evCode (run prog n) n b) n s).bind (evK (run prog n) n k) = some r ∧ Q r.1 r.2 := by
    intro m
    induction m with
    | zero => intro s _ h; omega
    | succ m ih =>
      intro s hs hm
      obtain ⟨n1, r1, h1, h2⟩ := step s hs
      obtain ⟨⟨x, s1⟩, h3, h4⟩ := bind_some h1
      simp only [evK, Option.some.injEq] at h4
      subst h4
      cases x with
      | nrm =>
        obtain ⟨h5, h6⟩ := h2
        have h6' : μ s1 < μ s := h6
        obtain ⟨n2, r2, h7, h8⟩ := ih s1 h5 (by omega)
        obtain ⟨a, h9, h10⟩ := bind_some h7
        have l1 : n1 ≤ max n1 n2 + 1 := by omega
        have l2 : n2 ≤ max n1 n2 + 1 := by omega
        refine ⟨max n1 n2 + 1, r2, ?_, h8⟩
        simp only [evLoop, evCode_mono (run_mono (prog := prog) l1) l1 _ h3]
        rw [evLoop_mono (fun s r hs => evCode_mono (run_mono (prog := prog) l2) l2 b hs) (Nat.le_max_right n1 n2) h9]
        exact evK_mono (run_mono l2) l2 h10
      | exit i =>
        obtain ⟨n2, r2, h5, h6⟩ := h2
        have l1 : n1 ≤ max n1 n2 + 1 := by omega
        have l2 : n2 ≤ max n1 n2 + 1 := by omega
        refine ⟨max n1 n2 + 1, r2, ?_, h6⟩
        simp only [evLoop, evCode_mono (run_mono (prog := prog) l1) l1 _ h3, Option.bind_some]
        exact evK_mono (run_mono l2) l2 h5
      | ret =>
        obtain ⟨n2, r2, h5, h6⟩ := h2
        have l1 : n1 ≤ max n1 n2 + 1 := by omega
        have l2 : n2 ≤ max n1 n2 + 1 := by omega
        refine ⟨max n1 n2 + 1, r2, ?_, h6⟩
        simp only [evLoop, evCode_mono (run_mono (prog := prog) l1) l1 _ h3, Option.bind_some]
        exact evK_mono (run_mono l2) l2 h5
      | pan v =>
        obtain ⟨n2, r2, h5, h6⟩ := h2
        have l1 : n1 ≤ max n1 n2 + 1 := by omega
        have l2 : n2 ≤ max n1 n2 + 1 := by omega
        refine ⟨max n1 n2 + 1, r2, ?_, h6⟩
        simp only [evLoop, evCode_mono (run_mono (prog := prog) l1) l1 _ h3, Option.bind_some]
        exact evK_mono (run_mono l2) l2 h5
  exact key (μ s + 1) s hI (Nat.lt_succ_self _)

theorem Ev.mono {c : ACode} {Q' : AX → St → Prop} (he : Ev prog c k s Q) (hq : ∀ x s', Q x s' → Q' x s') : Ev prog c k s Q' :=
  let ⟨n, r, h1, h2⟩ := he; ⟨n, r, h1, hq _ _ h2⟩

/-! A region whose order is drawn -/
def EvD (prog : Nat → Option AFun) (all os : List (AOper × List AOper)) (k : List KF) (s : St) (Q : AX → St → Prop) : Prop :=
  ∃ n r, ((evDraw (run prog n) os s).bind fun r => match r with | (.pan v, s') => evK (run prog n) n k (.pan v, { s' with t := poison s.t all }) | r => evK (run prog n) n k r) = some r ∧ Q r.1 r.2

/-- a drawn region in which nothing panics -/
def EvDn (prog : Nat → Option AFun) (os : List (AOper × List AOper)) (k : List KF) (s : St) (Q : AX → St → Prop) : Prop :=
  ∃ n s1 r, evDraw (run prog n) os s = some (.nrm, s1) ∧ evK (run prog n) n k (.nrm, s1) = some r ∧ Q r.1 r.2

theorem Ev_draw {os : List (AOper × List AOper)} (he : EvDn prog os k s Q) : Ev prog (.draw os) k s Q := by
  obtain ⟨n, s1, r, h1, h2, h3⟩ := he
  exact ⟨n, r, by simp only [evCode, h1, Option.bind_some]; exact h2, h3⟩

theorem EvDn_nil : EvDn prog [] k s Q ↔ EvX prog k .nrm s Q :=
  ⟨fun ⟨n, s1, r, h1, h2, h3⟩ => by simp only [evDraw, Option.some.injEq, Prod.mk.injEq] at h1; obtain ⟨_, rfl⟩ := h1; exact ⟨n, r, h2, h3⟩, fun ⟨n, r, h1, h2⟩ => ⟨n, s, r, rfl, h1, h2⟩⟩

theorem EvDn_op {dst : Option Nat} {op : AOp} {os : List (AOper × List AOper)} (hp : op.plain = true) : EvDn prog ((⟨dst, none, op⟩, []) :: os) k ⟨t, d, h⟩ Q ↔ someA (evOp op t h) fun v h' => EvDn prog os k ⟨putD t dst v, d, h'⟩ Q := by
  unfold EvDn someA
  simp only [evDraw, evOper_plain hp, wantedA]
  cases evOp op t h with
  | none => simp
  | some r => obtain ⟨v, h'⟩ := r; simp [checks]

theorem EvDn_opc {dst : Option Nat} {op : AOp} {rs : List AOper} {os : List (AOper × List AOper)} (hp : op.plain = true) : EvDn prog ((⟨dst, none, op⟩, rs) :: os) k ⟨t, d, h⟩ Q ↔ someA (evOp op t h) fun v h' => checks ⟨putD t dst v, d, h'⟩ rs = true ∧ EvDn prog os k ⟨putD t dst v, d, h'⟩ Q := by
  unfold EvDn someA
  simp only [evDraw, evOper_plain hp, wantedA]
  cases evOp op t h with
  | none => simp
  | some r =>
    obtain ⟨v, h'⟩ := r
    simp only
    cases checks ⟨putD t dst v, d, h'⟩ rs <;> simp

theorem EvDn_call {dst : Option Nat} {f : Opd} {args : List Opd} {rs : List AOper} {os : List (AOper × List AOper)} {who : Who} {l : List AV} {P : AV → Heap → Prop} (hc : calleeA (f.ev t) (evalAll t args) = some (who, l))
    (h1 : CallA prog who l h fun r h' => ∃ v, r = .ret v ∧ P v h') (h2 : ∀ v h', P v h' → checks ⟨putD t dst v, d, h'⟩ rs = true ∧ EvDn prog os k ⟨putD t dst v, d, h'⟩ Q) : EvDn prog ((⟨dst, none, .callv f args⟩, rs) :: os) k ⟨t, d, h⟩ Q := by
  obtain ⟨n1, r, h', hr, v, rfl, hp⟩ := h1
  obtain ⟨hck, n2, s1, r2, h4, h5, h6⟩ := h2 v h' hp
  refine ⟨max n1 n2, s1, r2, ?_, evK_mono (run_mono (Nat.le_max_right n1 n2)) (Nat.le_max_right n1 n2) h5, h6⟩
  simp only [evDraw, evOper, wantedA, hc, run_mono (Nat.le_max_left n1 n2) _ _ _ _ hr, hck, cond_true]
  exact evDraw_mono (run_mono (Nat.le_max_right n1 n2)) h4
end

/-! Functions -/
/-- how a frame leaves that has deferred nothing -/
theorem CallA_body {f nt : Nat} {rs : List ARV} {c : ACode} {l : List AV} {h : Heap} {P : ARes → Heap → Prop} (hf : prog f = some (.body nt rs false c))
    (he : Ev prog c [] ⟨argsT l, [], h⟩ fun x s => s.d = [] ∧ match x with | .nrm | .ret => ∃ vs, resultsA s.t s.h rs = some vs ∧ P (.ret (resultV vs)) s.h | .pan v => P (.pan v) s.h | _ => False) : CallA prog (.fn f) l h P := by
  obtain ⟨n, ⟨x, s⟩, h1, h2, h3⟩ := he
  obtain ⟨a, h4, h5⟩ := bind_some h1
  simp only [evK, Option.some.injEq] at h5
  subst h5
  cases x with
  | exit i => exact h3.elim
  | nrm =>
    obtain ⟨vs, h6, h7⟩ := h3
    refine ⟨n + 1, .ret (resultV vs), s.h, ?_, h7⟩
    simp only at h2
    simp only [run, hf, h4, h2, leaveA, h6, Option.map_some]
  | ret =>
    obtain ⟨vs, h6, h7⟩ := h3
    refine ⟨n + 1, .ret (resultV vs), s.h, ?_, h7⟩
    simp only at h2
    simp only [run, hf, h4, h2, leaveA, h6, Option.map_some]
  | pan v =>
    refine ⟨n + 1, .pan v, s.h, ?_, h3⟩
    simp only at h2
    simp only [run, hf, h4, h2, leaveA]

theorem CallA_intr {f : Nat} {i : Intr} {l : List AV} {h h' : Heap} {v : AV} {P : ARes → Heap → Prop} (hf : prog f = some (.intr i)) (he : evIntr i l h = some (v, h')) (hp : P (.ret v) h') : CallA prog (.fn f) l h P :=
  ⟨1, .ret v, h', by simp only [run, hf, he], hp⟩

theorem CallA_spec {f : Nat} {F : List AV → Option AV} {l ds : List AV} {h : Heap} {v : AV} {P : ARes → Heap → Prop} (hf : prog f = some (.spec F)) (hd : mapO (deepV h 12) l = some ds) (he : F ds = some v) (hp : P (.ret v) h) : CallA prog (.fn f) l h P :=
  ⟨1, .ret v, h, by simp only [run, hf, hd, he], hp⟩

theorem CallA_hspec {f : Nat} {F : List AV → Heap → Option (ARes × Heap)} {l : List AV} {h h' : Heap} {r : ARes} {P : ARes → Heap → Prop} (hf : prog f = some (.hspec F)) (he : F l h = some (r, h')) (hp : P r h') : CallA prog (.fn f) l h P :=
  ⟨1, r, h', by simp only [run, hf, he], hp⟩

theorem runs_of_call {f : Nat} {l : List AV} {v : AV} (hp : pureV v = true) (hc : CallA prog (.fn f) l emptyH fun r _ => r = .ret v) : Runs prog f l v := by
  obtain ⟨n, r, h', h1, rfl⟩ := hc
  exact ⟨hp, n, h', h1⟩
end Go.AM

/- STEPS, AND WHAT SLICES HOLD. -/
namespace Go.AM
variable {prog : Nat → Option AFun} {k : List KF} {s : St} {Q : AX → St → Prop} {t : Tm} {d : List ADef} {h h' : Heap}

theorem Ev_op_of {dst : Option Nat} {op : AOp} {os : List AOper} {v : AV} (hp : op.plain = true) (hv : evOp op t h = some (v, h')) (hn : Ev prog (.reg os) k ⟨putD t dst v, d, h'⟩ Q) : Ev prog (.reg (⟨dst, none, op⟩ :: os)) k ⟨t, d, h⟩ Q := by
  rw [Ev_op hp, hv]; exact hn

theorem Ev_opg_yes {dst : Option Nat} {op : AOp} {os : List AOper} {j : Nat} {b : Bool} {v : AV} (hp : op.plain = true) (hw : getT t j = .bool b) (hv : evOp op t h = some (v, h')) (hn : Ev prog (.reg os) k ⟨putD t dst v, d, h'⟩ Q) :
    Ev prog (.reg (⟨dst, some (j, b), op⟩ :: os)) k ⟨t, d, h⟩ Q := by
  rw [Ev_opg hp, hv, hw, wantA_bool, if_pos rfl]; exact hn

theorem Ev_opg_no {dst : Option Nat} {op : AOp} {os : List AOper} {j : Nat} {b c : Bool} (hp : op.plain = true) (hw : getT t j = .bool c) (hb : c ≠ b) (hn : Ev prog (.reg os) k ⟨putD t dst undefA, d, h⟩ Q) :
    Ev prog (.reg (⟨dst, some (j, b), op⟩ :: os)) k ⟨t, d, h⟩ Q := by
  rw [Ev_opg hp, hw, wantA_bool, if_neg hb]; exact hn

theorem Ev_opg_un {dst : Option Nat} {op : AOp} {os : List AOper} {j : Nat} {b : Bool} (hp : op.plain = true) (hw : getT t j = undefA) (hn : Ev prog (.reg os) k ⟨putD t dst undefA, d, h⟩ Q) :
    Ev prog (.reg (⟨dst, some (j, b), op⟩ :: os)) k ⟨t, d, h⟩ Q := by
  rw [Ev_opg hp, hw, wantA_undef]; exact hn

theorem Ev_cond_true {c : Opd} {a b : ACode} (hc : c.ev t = .bool true) (hn : Ev prog a k ⟨t, d, h⟩ Q) : Ev prog (.cond c a b) k ⟨t, d, h⟩ Q := by
  rw [Ev_cond, hc, condA_bool, if_pos rfl]; exact hn
theorem Ev_cond_false {c : Opd} {a b : ACode} (hc : c.ev t = .bool false) (hn : Ev prog b k ⟨t, d, h⟩ Q) : Ev prog (.cond c a b) k ⟨t, d, h⟩ Q := by
  rw [Ev_cond, hc, condA_bool, if_neg (by simp)]; exact hn
theorem Ev_cond_if {c : Opd} {a b : ACode} {x : Bool} (hc : c.ev t = .bool x) (h1 : x = true → Ev prog a k ⟨t, d, h⟩ Q) (h2 : x = false → Ev prog b k ⟨t, d, h⟩ Q) : Ev prog (.cond c a b) k ⟨t, d, h⟩ Q := by
  cases x
  · exact Ev_cond_false hc (h2 rfl)
  · exact Ev_cond_true hc (h1 rfl)

theorem EvDn_op_of {dst : Option Nat} {op : AOp} {os : List (AOper × List AOper)} {v : AV} (hp : op.plain = true) (hv : evOp op t h = some (v, h')) (hn : EvDn prog os k ⟨putD t dst v, d, h'⟩ Q) : EvDn prog ((⟨dst, none, op⟩, []) :: os) k ⟨t, d, h⟩ Q := by
  rw [EvDn_op hp, hv]; exact hn

/-- a loop that leaves the memory as it is -/
theorem Ev_loopT {b : ACode} (I : Tm → Prop) (μ : Tm → Nat) (hI : I t) (step : ∀ t, I t → Ev prog b [] ⟨t, d, h⟩ (fun x s' => match x with | .nrm => s'.d = d ∧ s'.h = h ∧ I s'.t ∧ μ s'.t < μ t | x => EvX prog k x s' Q)) : Ev prog (.loop b) k ⟨t, d, h⟩ Q := by
  refine Ev_loop (fun s => s.d = d ∧ s.h = h ∧ I s.t) (fun s => μ s.t) ⟨rfl, rfl, hI⟩ ?_
  rintro ⟨t1, d1, h1⟩ ⟨e1, e2, hI1⟩
  simp only at e1 e2 hI1
  subst e1; subst e2
  refine (step t1 hI1).mono fun x s' hx => ?_
  cases x with
  | nrm => exact ⟨⟨hx.1, hx.2.1, hx.2.2.1⟩, hx.2.2.2⟩
  | exit i => exact hx
  | ret => exact hx
  | pan v => exact hx

/-- a loop that changes the memory -/
theorem Ev_loopH {b : ACode} (I : Tm → Heap → Prop) (μ : Tm → Heap → Nat) (hI : I t h) (step : ∀ t h, I t h → Ev prog b [] ⟨t, d, h⟩ (fun x s' => match x with | .nrm => s'.d = d ∧ I s'.t s'.h ∧ μ s'.t s'.h < μ t h | x => EvX prog k x s' Q)) : Ev prog (.loop b) k ⟨t, d, h⟩ Q := by
  refine Ev_loop (fun s => s.d = d ∧ I s.t s.h) (fun s => μ s.t s.h) ⟨rfl, hI⟩ ?_
  rintro ⟨t1, d1, h1⟩ ⟨e1, hI1⟩
  simp only at e1 hI1
  subst e1
  refine (step t1 h1 hI1).mono fun x s' hx => ?_
  cases x with
  | nrm => exact ⟨⟨hx.1, hx.2.1⟩, hx.2.2⟩
  | exit i => exact hx
  | ret => exact hx
  | pan v => exact hx

/-- a counter -/
def cntA (m : Nat) (v : AV) : Nat := match v with | .int _ n => m - n.toNat | _ => 0
theorem cntA_int {m i : Nat} {k : IntKind} : cntA m (.int k (i : Int)) = m - i := rfl

/-! Addresses -/
def isAddr : AV → Bool
  | .ptr _ _ | .pptr _ _ => true
  | _ => false

def addA : AV → Nat → AV
  | .ptr b o, k => .ptr b (o + k)
  | .pptr cs o, k => .pptr cs (o + k)
  | v, _ => v

def atA (h : Heap) (a : AV) (n : Nat) : Option (List AV) := match a with | .ptr b o => readAt h b o n | .pptr cs o => cut cs o n | _ => none

theorem isAddr_add {a : AV} (ha : isAddr a = true) (k : Nat) : isAddr (addA a k) = true := by cases a <;> first | rfl | cases ha
theorem add_add {a : AV} (j k : Nat) : addA (addA a j) k = addA a (j + k) := by cases a <;> simp [addA, Nat.add_assoc]
theorem add_zero {a : AV} : addA a 0 = a := by cases a <;> rfl

def loadA (h : Heap) (g : Bool) (n : Nat) (a : AV) : Option AV := match atA h a n with | some cs => readV g n cs | none => none

theorem ev_load {g : Bool} {n : Nat} {x : Opd} {a v : AV} (hx : x.ev t = a) (hl : loadA h g n a = some v) : evOp (.load g n x) t h = some (v, h) := by
  subst hx
  unfold loadA atA at hl
  simp only [evOp]
  cases hx : x.ev t <;> rw [hx] at hl <;> simp only [reduceCtorEq] at hl ⊢
  case ptr b o =>
    cases hr : readAt h b o n with
    | none => rw [hr] at hl; cases hl
    | some cs => rw [hr] at hl; simp only at hl ⊢; rw [hl]
  case pptr b o =>
    cases hr : cut b o n with
    | none => rw [hr] at hl; cases hl
    | some cs => rw [hr] at hl; simp only at hl ⊢; rw [hl]

theorem ev_field {off : Nat} {x : Opd} {a : AV} (hx : x.ev t = a) (ha : isAddr a = true) : evOp (.fieldAddr off x) t h = some (addA a off, h) := by
  subst hx; simp only [evOp]; cases hx : x.ev t <;> rw [hx] at ha <;> first | rfl | cases ha

theorem ev_nilCheck {x : Opd} {a : AV} (hx : x.ev t = a) (ha : isAddr a = true) : evOp (.nilCheck x) t h = some (a, h) := by
  subst hx; simp only [evOp]; cases hx : x.ev t <;> rw [hx] at ha <;> first | rfl | cases ha

/-! Slices -/
/-- a slice of n elements of e cells reads as these cells -/
def Reads (h : Heap) (e : Nat) (v : AV) (n : Nat) (cs : List AV) : Prop :=
  lenA v = some n ∧ cs.length = n * e ∧ (∀ s, v ≠ .str s) ∧ (n = 0 ∨ match v with | .slice b o _ _ e' => e' = e ∧ readAt h b o (n * e) = some cs | .pslice ds o _ _ => cut ds o (n * e) = some cs | _ => False)

theorem ev_len {h0 : Heap} {e n : Nat} {x : Opd} {v : AV} {cs : List AV} (hx : x.ev t = v) (hr : Reads h0 e v n cs) : evOp (.len false x) t h = some (.int .i64 n, h) := by
  subst hx
  obtain ⟨h1, _, h2, _⟩ := hr
  simp only [evOp]
  cases hx : x.ev t <;> rw [hx] at h1 h2 <;> simp only [lenA, reduceCtorEq] at h1 ⊢
  · exact absurd rfl (h2 _)
  all_goals
    simp only [Option.some.injEq] at h1
    subst h1
    rfl

theorem takeN_take : ∀ {l : List AV} {n : Nat}, n ≤ l.length → takeN l n = some (l.take n)
  | _, 0, _ => by simp [takeN]
  | [], n + 1, h => by simp at h
  | x :: l, n + 1, h => by simp only [takeN, takeN_take (show n ≤ l.length by simpa using h), List.take_succ_cons]

theorem cut_eq {cs : List AV} {o n : Nat} (h : o + n ≤ cs.length) : cut cs o n = some ((cs.drop o).take n) := by
  unfold cut; exact takeN_take (by simp; omega)

theorem cut_some {cs r : List AV} {o n : Nat} (h : cut cs o n = some r) : r = (cs.drop o).take n := by
  obtain ⟨h1, h2, h3⟩ := cut_get h
  apply List.ext_getElem?
  intro i
  by_cases hi : i < n
  · rw [h3 i hi, List.getElem?_take, if_pos hi, List.getElem?_drop]
  · rw [List.getElem?_eq_none (by omega), List.getElem?_eq_none (by simp; omega)]

theorem cut_cut {cs r : List AV} {o n i m : Nat} (h : cut cs o n = some r) (him : i + m ≤ n) : cut cs (o + i) m = cut r i m := by
  obtain ⟨h1, h2, h3⟩ := cut_get h
  by_cases hm : m = 0
  · subst hm; simp [cut, takeN]
  · have hr := cut_some h
    have hl : o + n ≤ cs.length := h2.resolve_left (by omega)
    rw [cut_eq (by omega), cut_eq (by omega), hr]
    congr 1
    rw [List.drop_take, List.take_take, List.drop_drop, Nat.min_eq_left (by omega)]

theorem readAt_cut {b o n : Nat} {r : List AV} (hr : readAt h b o n = some r) {i m : Nat} (him : i + m ≤ n) : readAt h b (o + i) m = cut r i m := by
  unfold readAt at hr ⊢
  split at hr
  · exact cut_cut hr him
  · cases hr

theorem Reads.cases {e n : Nat} {v : AV} {cs : List AV} (hr : Reads h e v n cs) (hn : 0 < n) :
    (∃ b o c, v = .slice b o n c e ∧ readAt h b o (n * e) = some cs) ∨ (∃ ds o c, v = .pslice ds o n c ∧ cut ds o (n * e) = some cs) := by
  obtain ⟨h1, h2, _, h3⟩ := hr
  have h3 := h3.resolve_left (by omega)
  revert h1 h3
  cases v <;> simp only [lenA, Option.some.injEq, reduceCtorEq, false_implies, implies_true]
  · rintro rfl ⟨rfl, h4⟩; exact .inl ⟨_, _, _, rfl, h4⟩
  · rintro rfl h4; exact .inr ⟨_, _, _, rfl, h4⟩

/-- where the i-th element lies -/
theorem Reads.at {e n : Nat} {v : AV} {cs : List AV} (hr : Reads h e v n cs) {i : Nat} (hi : i < n) :
    ∃ a, isAddr a = true ∧ (∀ (t : Tm) (x j : Opd) (kk : IntKind), x.ev t = v → j.ev t = .int kk i → evOp (.idxAddrS e x j) t h = some (a, h)) ∧ ∀ o m, o + m ≤ e → atA h (addA a o) m = cut cs (i * e + o) m := by
  have hidx : ∀ kk : IntKind, idxA (.int kk (i : Int)) n = some i := by
    intro kk; simp only [idxA]; rw [if_pos (by omega)]; simp
  have hie : i * e + e ≤ n * e := by
    have : (i + 1) * e ≤ n * e := Nat.mul_le_mul_right _ hi
    rw [Nat.add_mul] at this; omega
  rcases hr.cases (by omega) with ⟨b, o, c, rfl, h4⟩ | ⟨ds, o, c, rfl, h4⟩
  · refine ⟨.ptr b (o + i * e), rfl, fun t x j kk hx hj => ?_, fun o2 m hm => ?_⟩
    · simp only [evOp, hx, hj, if_true, hidx]
    · simp only [addA, atA]
      rw [Nat.add_assoc]
      exact readAt_cut h4 (by omega)
  · refine ⟨.pptr ds (o + i * e), rfl, fun t x j kk hx hj => ?_, fun o2 m hm => ?_⟩
    · simp only [evOp, hx, hj, hidx]
    · simp only [addA, atA]
      rw [Nat.add_assoc]
      exact cut_cut h4 (by omega)

/-- elements, each of e cells -/
theorem flat_length {α : Type} {f : α → List AV} {e : Nat} (hf : ∀ x, (f x).length = e) : ∀ l : List α, (l.flatMap f).length = l.length * e
  | [] => by simp
  | x :: l => by rw [List.flatMap_cons, List.length_append, hf, flat_length hf l, List.length_cons, Nat.add_mul]; omega

theorem flat_cut {α : Type} {f : α → List AV} {e : Nat} (hf : ∀ x, (f x).length = e) : ∀ {l : List α} {i : Nat} (hi : i < l.length) {o m : Nat}, o + m ≤ e → cut (l.flatMap f) (i * e + o) m = cut (f l[i]) o m
  | x :: l, 0, _, o, m, hm => by
    simp only [List.flatMap_cons, Nat.zero_mul, Nat.zero_add, List.getElem_cons_zero]
    have h1 : o + m ≤ (f x).length := by rw [hf]; exact hm
    rw [cut_eq (by simp; omega), cut_eq h1]
    congr 1
    rw [List.drop_append_of_le_length (by omega), List.take_append_of_le_length (by simp; omega)]
  | x :: l, i + 1, hi, o, m, hm => by
    simp only [List.flatMap_cons, List.getElem_cons_succ]
    rw [← flat_cut hf (l := l) (i := i) (by simpa using hi) hm]
    unfold cut
    have : (i + 1) * e + o = (f x).length + (i * e + o) := by rw [hf, Nat.add_mul]; omega
    rw [this, List.drop_append, List.drop_eq_nil_of_le (by omega), List.nil_append]
    congr 2; omega

def ReadsL {α : Type} (h : Heap) (f : α → List AV) (e : Nat) (v : AV) (l : List α) : Prop := Reads h e v l.length (l.flatMap f)

theorem ReadsL.at {α : Type} {f : α → List AV} {e : Nat} {v : AV} {l : List α} (hr : ReadsL h f e v l) (hf : ∀ x, (f x).length = e) {i : Nat} (hi : i < l.length) :
    ∃ a, isAddr a = true ∧ (∀ (t : Tm) (x j : Opd) (kk : IntKind), x.ev t = v → j.ev t = .int kk i → evOp (.idxAddrS e x j) t h = some (a, h)) ∧ ∀ o m, o + m ≤ e → atA h (addA a o) m = cut (f l[i]) o m := by
  obtain ⟨a, h1, h2, h3⟩ := Reads.at hr hi
  exact ⟨a, h1, h2, fun o m hm => (h3 o m hm).trans (flat_cut hf hi hm)⟩

theorem wrap_i64 {n : Int} (h1 : -9223372036854775808 ≤ n) (h2 : n ≤ 9223372036854775807) : wrapA .i64 n = n := by
  have e0 : wrapA .i64 n = bif (decide (-9223372036854775808 ≤ n) && decide (n ≤ 9223372036854775807)) then n else IntKind.wrap .i64 n := rfl
  have e1 : decide (-9223372036854775808 ≤ n) = true := by simpa using h1
  have e2 : decide (n ≤ 9223372036854775807) = true := by simpa using h2
  rw [e0, e1, e2]; rfl
end Go.AM

/- WHAT ARGUMENTS READ AS: from a reading of plain data to abstract values. -/
namespace Go.AM
open Go.ChangeShapes Go.WideShapes

/-! how much a reading holds -/
mutual
def bulkD {H : Type} : DataW H → Nat
  | .lit (.string bytes) => bytes.length + 1
  | .lit _ => 1
  | .nil => 1
  | .ptr d => bulkD d + 1
  | .slice elems spare => bulkDs elems + bulkDs spare + 1
  | .agg parts => bulkDs parts + 1
  | .iface _ d => bulkD d + 1
  | .map entries => bulkDe entries + 1
  | .held _ => 1
def bulkDs {H : Type} : List (DataW H) → Nat
  | [] => 0
  | d :: r => bulkD d + bulkDs r
def bulkDe {H : Type} : List (Lit × DataW H) → Nat
  | [] => 0
  | x :: r => bulkDx x + bulkDe r
def bulkDx {H : Type} : Lit × DataW H → Nat
  | (.string bytes, d) => bytes.length + bulkD d + 1
  | (_, d) => bulkD d + 1
end

/-- an abstract value that stands for nothing of its own -/
def noPl : Pl := fun _ => none

section
variable {H : Type} {enc : TypeId × Value → H} {P : Program} {w : World} {base : Nat} {spare : Nat → Bool}

/-- cells of a type read as contents -/
structure Rd (enc : TypeId × Value → H) (P : Program) (w : World) (base : Nat) (spare : Nat → Bool) (t : TypeId) {α : Type} (n : Nat) (cells : α → List AV) (wf : α → Prop) (size : α → Nat) : Prop where
  pos : 0 < n
  sz : P.cellsOf t = n
  len : ∀ a, (cells a).length = n
  rd : ∀ {fuel : Nat} {cs : List Value} {x : DataW H × List MemPlace}, DataW.trod enc P w base spare true fuel t cs = some x → ∃ a, VRs (cellsAll w) noPl (cells a) cs ∧ wf a ∧ size a ≤ bulkD x.1

theorem Rd.conv {t : TypeId} {α β : Type} {n : Nat} {cells : α → List AV} {wf : α → Prop} {size : α → Nat} {cells' : β → List AV} {wf' : β → Prop} {size' : β → Nat} (hr : Rd enc P w base spare t n cells wf size)
    (g : α → β) (hc : ∀ a, cells' (g a) = cells a) (hw : ∀ a, wf a → wf' (g a)) (hs : ∀ a, size' (g a) ≤ size a) (hl : ∀ b, (cells' b).length = n) : Rd enc P w base spare t n cells' wf' size' :=
  ⟨hr.pos, hr.sz, hl, fun h => let ⟨a, h1, h2, h3⟩ := hr.rd h; ⟨g a, by rw [hc]; exact h1, hw a h2, Nat.le_trans (hs a) h3⟩⟩

def intWf (k : IntKind) (n : Int) : Prop := (Lit.int k n).wf = true

theorem rd_int {t : TypeId} {k : IntKind} (ht : P.underlying t = some (.int k)) (hs : P.cellsOf t = 1) : Rd enc P w base spare t 1 (fun n : Int => [.int k n]) (intWf k) (fun _ => 1) where
  pos := by omega
  sz := hs
  len := fun _ => rfl
  rd := fun {fuel cs x} h => by
    obtain ⟨n, rfl, rfl, hwf⟩ := DataW.trod_int ht h
    exact ⟨n, by simp only [VRs, VR]; exact ⟨_, _, rfl, rfl, rfl⟩, hwf, Nat.le_refl _⟩

theorem rd_str {t : TypeId} (ht : P.underlying t = some .string) (hs : P.cellsOf t = 1) : Rd enc P w base spare t 1 (fun s : List UInt8 => [.str s]) (fun _ => True) (fun s => s.length + 1) where
  pos := by omega
  sz := hs
  len := fun _ => rfl
  rd := fun {fuel cs x} h => by
    obtain ⟨s, rfl, rfl, _⟩ := DataW.trod_string ht h
    exact ⟨s.data.toList, by simp only [VRs, VR]; exact ⟨_, _, rfl, by simp, rfl⟩, trivial, Nat.le_refl _⟩

theorem bulkDs_append {H : Type} : ∀ (a b : List (DataW H)), bulkDs (a ++ b) = bulkDs a + bulkDs b
  | [], b => by simp [bulkDs]
  | d :: a, b => by simp only [List.cons_append, bulkDs, bulkDs_append a b]; omega

theorem VRs_append {st : Stab} {ρ : Pl} : ∀ {a b : List AV} {x y : List Value}, VRs st ρ a x → VRs st ρ b y → VRs st ρ (a ++ b) (x ++ y)
  | [], b, x, y, hx, hy => by simp only [VRs] at hx; subst hx; exact hy
  | v :: a, b, x, y, hx, hy => by
    simp only [VRs] at hx
    obtain ⟨x0, r, rfl, h1, h2⟩ := hx
    simp only [List.cons_append, VRs]
    exact ⟨x0, r ++ y, rfl, h1, VRs_append h2 hy⟩

theorem PC_append {st : Stab} {ρ : Pl} {B : Nat} : ∀ {a b : List AV} {d : Nat}, PC st ρ B d a → PC st ρ B (d + a.length) b → PC st ρ B d (a ++ b)
  | [], b, d, _, hb => by simpa using hb
  | v :: a, b, d, ha, hb => by
    simp only [PC] at ha
    simp only [List.cons_append, PC]
    refine ⟨ha.1, PC_append ha.2 ?_⟩
    have : d + 1 + a.length = d + (v :: a).length := by simp; omega
    rw [this]; exact hb

/-- some of a struct's fields, that lie one behind the other -/
structure RdF (enc : TypeId × Value → H) (P : Program) (w : World) (base : Nat) (spare : Nat → Bool) (fs : List Field) (o : Nat) {α : Type} (n : Nat) (cells : α → List AV) (wf : α → Prop) (size : α → Nat) : Prop where
  len : ∀ a, (cells a).length = n
  rd : ∀ {m : Nat} {cs : List Value} {xs : List (DataW H × List MemPlace)}, (∀ (i : Nat) (f : Field), fs[i]? = some f → DataW.trod enc P w base spare true m f.type ((cs.drop f.offset).take (P.cellsOf f.type)) = xs[i]?) → xs.length = fs.length →
    ∃ a, VRs (cellsAll w) noPl (cells a) ((cs.drop o).take n) ∧ wf a ∧ size a ≤ bulkDs (xs.map (·.1))

theorem rdF_nil {o : Nat} : RdF enc P w base spare [] o 0 (fun _ : Unit => []) (fun _ => True) (fun _ => 0) where
  len := fun _ => rfl
  rd := fun {m cs xs} _ _ => ⟨(), by simp [VRs], trivial, Nat.zero_le _⟩

theorem rdF_cons {f : Field} {fs : List Field} {o n1 n2 : Nat} {α β : Type} {c1 : α → List AV} {w1 : α → Prop} {s1 : α → Nat} {c2 : β → List AV} {w2 : β → Prop} {s2 : β → Nat} (ho : f.offset = o)
    (h1 : Rd enc P w base spare f.type n1 c1 w1 s1) (h2 : RdF enc P w base spare fs (o + n1) n2 c2 w2 s2) :
    RdF enc P w base spare (f :: fs) o (n1 + n2) (fun x : α × β => c1 x.1 ++ c2 x.2) (fun x => w1 x.1 ∧ w2 x.2) (fun x => s1 x.1 + s2 x.2) where
  len := fun x => by rw [List.length_append, h1.len, h2.len]
  rd := fun {m cs xs} h hl => by
    cases xs with
    | nil => simp at hl
    | cons x xs =>
      have e0 := h 0 f rfl
      rw [ho, h1.sz] at e0
      simp only [List.getElem?_cons_zero] at e0
      obtain ⟨a, a1, a2, a3⟩ := h1.rd e0
      obtain ⟨b, b1, b2, b3⟩ := h2.rd (m := m) (cs := cs) (xs := xs) (fun i g hg => by have := h (i + 1) g (by simpa using hg); simpa using this) (by simpa using hl)
      refine ⟨(a, b), ?_, ⟨a2, b2⟩, by simp only [List.map_cons, bulkDs]; omega⟩
      have : (cs.drop o).take (n1 + n2) = (cs.drop o).take n1 ++ (cs.drop (o + n1)).take n2 := by
        rw [List.take_add, List.drop_drop]
      rw [this]
      exact VRs_append a1 b1

theorem rd_struct {t : TypeId} {fs : Array Field} {α : Type} {n : Nat} {cells : α → List AV} {wf : α → Prop} {size : α → Nat} (ht : P.underlying t = some (.struct fs)) (hs : P.cellsOf t = n) (hn : 0 < n)
    (hf : RdF enc P w base spare fs.toList 0 n cells wf size) : Rd enc P w base spare t n cells wf size where
  pos := hn
  sz := hs
  len := hf.len
  rd := fun {fuel cs x} h => by
    obtain ⟨xs, m, rfl, rfl, hl, hx, he⟩ := DataW.trod_struct ht h
    obtain ⟨a, a1, a2, a3⟩ := hf.rd (m := m) (cs := cs) (xs := xs) (fun i f hif => he i f (by simpa using hif)) (by simpa using hx)
    rw [List.drop_zero, List.take_of_length_le (by omega)] at a1
    exact ⟨a, a1, a2, by simp only [bulkD]; omega⟩

/-- what a slice is: an abstract value that reads as contents -/
def SlWf {α : Type} (cells : α → List AV) (wf : α → Prop) (x : AV × List α) : Prop :=
  ((x.1 = .nilslice ∧ x.2 = []) ∨ (x.1 = .eslice ∧ x.2 = []) ∨ (x.1 = .pslice (x.2.flatMap cells) 0 x.2.length none ∧ 0 < x.2.length)) ∧ ∀ a ∈ x.2, wf a

def sumS {α : Type} (size : α → Nat) (l : List α) : Nat := (l.map size).sum

theorem cells_spot {a : Addr} {n : Nat} {cs : List Value} (h : w.cells? base a n = some cs) (hn : 0 < n) : a.spot = none := by
  obtain ⟨_, hl, hc⟩ := World.cells?_some h
  have h0 := hc 0 hn
  have : cs[0]? ≠ none := by rw [List.getElem?_eq_getElem (by omega)]; simp
  rw [← h0] at this
  simp only [Addr.add, if_true] at this
  unfold World.cell? at this
  split at this
  · split at this
    · exact absurd rfl this
    · rename_i hs; cases hsp : a.spot <;> simp_all
  · exact absurd rfl this

theorem rd_slice {t e : TypeId} {α : Type} {n : Nat} {cells : α → List AV} {wf : α → Prop} {size : α → Nat} (ht : P.underlying t = some (.slice e)) (hs : P.cellsOf t = 1) (he : Rd enc P w base spare e n cells wf size) :
    Rd enc P w base spare t 1 (fun x : AV × List α => [x.1]) (SlWf cells wf) (fun x => sumS size x.2 + 1) where
  pos := by omega
  sz := hs
  len := fun _ => rfl
  rd := fun {fuel cs x} h => by
    rcases DataW.trod_slice ht h with ⟨rfl, rfl⟩ | ⟨a, len, cap, elems, rest, m, rfl, rfl, rfl, hb, hl, hm, hlen, hel, _, _⟩
    · exact ⟨(.nilslice, []), by simp only [VRs, VR]; exact ⟨_, _, rfl, rfl, rfl⟩, ⟨.inl ⟨rfl, rfl⟩, (fun a ha => by cases ha)⟩, by simp [sumS, bulkD]⟩
    · by_cases h0 : len = 0
      · subst h0
        exact ⟨(.eslice, []), by simp only [VRs, VR]; exact ⟨_, _, rfl, ⟨_, _, rfl⟩, rfl⟩, ⟨.inr (.inl ⟨rfl, rfl⟩), (fun a ha => by cases ha)⟩, by simp [sumS, bulkD]⟩
      · rw [he.sz] at hel
        have each : ∀ i, i < len → ∃ cs', w.cells? base (a.add (i * n)) n = some cs' ∧ ∃ y, DataW.trod enc P w base spare true m e cs' = some y ∧ elems[i]? = some y := fun i hi => by
          have h1 := hel i hi
          rw [List.getElem?_eq_getElem (by omega)] at h1
          obtain ⟨cs', h2, h3⟩ := Option.bind_eq_some_iff.1 h1
          exact ⟨cs', h2, _, h3, List.getElem?_eq_getElem (by omega)⟩
        have hspot : a.spot = none := by
          obtain ⟨cs', h1, _⟩ := each 0 (by omega)
          rw [Nat.zero_mul] at h1
          exact cells_spot h1 he.pos
        obtain ⟨B, o, sp⟩ := a
        simp only at hspot
        subst hspot
        have key : ∀ k, k ≤ len → ∃ l : List α, l.length = k ∧ (∀ a ∈ l, wf a) ∧ sumS size l ≤ bulkDs ((elems.take k).map (·.1)) ∧ PC (cellsAll w) noPl B o (l.flatMap cells) := by
          intro k
          induction k with
          | zero => intro _; exact ⟨[], rfl, (fun a ha => by cases ha), (by simp [sumS]), (by simp [PC])⟩
          | succ k ih =>
            intro hk
            obtain ⟨l, l1, l2, l3, l4⟩ := ih (by omega)
            obtain ⟨cs', c1, y, c2, c3⟩ := each k (by omega)
            obtain ⟨v, v1, v2, v3⟩ := he.rd c2
            obtain ⟨_, hcl, hcc⟩ := World.cells?_some c1
            have hBs : B < w.heap.size := by
              have h0 := hcc 0 he.pos
              have : cs'[0]? ≠ none := by rw [List.getElem?_eq_getElem (by have := he.pos; omega)]; simp
              rw [← h0] at this
              unfold World.cell? at this
              split at this
              · rename_i hh
                have hblk : (((⟨B, o, none⟩ : Addr).add (k * n)).add 0).block = B := by simp only [Addr.add]; split <;> (split <;> rfl)
                rw [hblk] at hh
                exact (Array.getElem?_eq_some_iff.1 hh).1
              · exact absurd rfl this
            refine ⟨l ++ [v], by simp [l1], fun a ha => ?_, ?_, ?_⟩
            · rcases List.mem_append.1 ha with h1 | h1
              · exact l2 a h1
              · rw [List.mem_singleton] at h1; subst h1; exact v2
            · have ht1 : elems.take (k + 1) = elems.take k ++ [y] := by
                have hk2 : k < elems.length := by omega
                rw [List.take_succ_eq_append_getElem hk2]
                rw [List.getElem?_eq_getElem hk2] at c3
                simp only [Option.some.injEq] at c3
                rw [c3]
              rw [ht1, List.map_append, bulkDs_append]
              simp only [sumS, List.map_append, List.sum_append_nat, List.map_cons, List.map_nil, List.sum_cons, List.sum_nil, bulkDs] at l3 ⊢
              omega
            · rw [List.flatMap_append]
              refine PC_append l4 ?_
              have hfl : (l.flatMap cells).length = k * n := by rw [flat_length he.len, l1]
              rw [hfl]
              simp only [List.flatMap_cons, List.flatMap_nil, List.append_nil]
              refine PC_of_cells hBs (fun j hj => ?_) v1
              rw [hcl] at hj
              have := hcc j hj
              rw [Deep.add_add, addr_add] at this
              rw [← this]; congr 2; omega
        obtain ⟨l, l1, l2, l3, l4⟩ := key len (Nat.le_refl _)
        refine ⟨(.pslice (l.flatMap cells) 0 l.length none, l), ?_, ⟨.inr (.inr ⟨rfl, by simp only; omega⟩), l2⟩, ?_⟩
        · simp only [VRs, VR]
          exact ⟨_, _, rfl, ⟨B, o, cap, by rw [l1]; rfl, by omega, trivial, l4⟩, rfl⟩
        · rw [List.take_of_length_le (by omega)] at l3
          simp only [bulkD]; omega
end
end Go.AM

/- WHAT IS KNOWN OF CELLS MAY BE TOLD OTHERWISE; a growing list of bytes in one form. -/
namespace Go.AM
section
variable {C : Cx} {ρ ρ' : Pl} {h h' h1 h2 : Heap} {w w' : World}

theorem putObj_same {B : Nat} {o : Obj} (hB : w.heap[B]? = some o) : w.putObj B o = w := by
  unfold World.putObj
  have : w.heap.set! B o = w.heap := by
    apply Array.ext_getElem?
    intro j
    rw [Array.set!_eq_setIfInBounds, Array.getElem?_setIfInBounds]
    by_cases e : B = j
    · subst e
      have hlt := (Array.getElem?_eq_some_iff.1 hB).1
      rw [if_pos rfl, if_pos hlt, hB]
    · rw [if_neg e]
  first | rw [this] | (simp only [Array.set!_eq_setIfInBounds] at this; rw [this])

/-- memories that hold the same are the same -/
theorem Rel.congr (hr : Rel C ρ h1 w) (hg : ∀ j, h2.get j = h1.get j) (hn : h2.next = h1.next) : Rel C ρ h2 w :=
  ⟨by rw [hn]; exact hr.room, fun b B m hb => by rw [hn, hg]; exact hr.dom b B m hb, fun b1 b2 B m1 m2 o1 g1 g2 g3 g4 g5 => by rw [hg]; rw [hg] at g4; exact hr.inj b1 b2 B m1 m2 o1 g1 g2 g3 g4 g5,
    fun b B m o g1 g2 => by rw [hg] at g2; exact hr.ancs b B m o g1 g2, hr.low, hr.base, hr.io⟩

theorem Post.congr (hp : Post C ρ h w ρ' h1 w') (hg : ∀ j, h2.get j = h1.get j) (hn : h2.next = h1.next) : Post C ρ h w ρ' h2 w' :=
  ⟨hp.le, hp.rel.congr hg hn, hp.size, hp.ext, hp.new, by rw [hn]; exact hp.next, fun b hb hx => by rw [hg]; exact hp.old b hb hx⟩

/-- the same cells, told otherwise -/
theorem Post.revalue {b B m ty frz : Nat} {cs cs' : List AV} {anc : List (Nat × Nat)} (hr : Rel C ρ h w) (hb : ρ b = some (B, m)) (hg : h.get b = some (.cells ty cs true frz anc))
    (hcs : ∀ xs : List Value, xs.length = m → CR C.st ρ cs xs → CR C.st ρ cs' xs) : Post C ρ h w ρ (h.set b (.cells ty cs' true frz anc)) w := by
  obtain ⟨hbn, hBN, ao, o, h1, h2, h3⟩ := hr.dom b B m hb
  rw [hg] at h1; cases h1
  obtain ⟨xs, lo, hi, rfl, hm, hcr, hfc⟩ := h3
  have hroom := hr.room
  have := Post.put (C := C) (ρ := ρ) (h := h) (h' := h.set b (.cells ty cs' true frz anc)) (w := w) (ao := .cells ty cs true frz anc) (ao' := .cells ty cs' true frz anc) (o' := .cells xs.toArray ty (lo, hi)) hr hb hg rfl rfl
    (fun j hj hne => .inl (by rw [Heap.get_set (by omega) hj, if_neg (fun e => hne e.symm)])) (by rw [Heap.get_set (by omega) (by omega), if_pos rfl]) rfl ⟨xs, lo, hi, rfl, hm, hcs xs hm hcr, hfc⟩
    (fun b2 m2 ty2 cs2 frz2 anc2 n o2 hne hb2 hg2 hin hle ho2 hor2 => by
      rw [h2] at ho2; cases ho2; exact hor2)
  rwa [putObj_same h2] at this

/-! A list of bytes that grows: the field of a block says where it is -/
/-- what is known of a growing list: block c holds the field, block b the bytes -/
structure Grow (h : Heap) (c b n tw fz ty : Nat) (ac : List (Nat × Nat)) (rest : List AV) (cs : List AV) (cap : Option Nat) : Prop where
  ne : c ≠ b
  field : h.get c = some (.cells tw (.slice b 0 n cap 1 :: rest) true fz ac)
  block : h.get b = some (.cells ty cs true 1 [])

/-- the capacity is told -/
def learnt (h : Heap) (c b n tw fz ty : Nat) (ac : List (Nat × Nat)) (rest cs : List AV) (m : Nat) : Heap :=
  (h.set b (.cells ty (cs ++ List.replicate (m - cs.length) .bot) true 1 [])).set c (.cells tw (.slice b 0 n (some m) 1 :: rest) true fz ac)

variable {c b n tw fz ty : Nat} {ac : List (Nat × Nat)} {rest cs : List AV}

theorem Grow.place (hg : Grow h c b n tw fz ty ac rest cs none) (hr : Rel C ρ h w) {Bc mc : Nat} (hc : ρ c = some (Bc, mc)) : ∃ B m, ρ b = some (B, m) ∧ n ≤ m ∧ m < 9223372036854775808 := by
  obtain ⟨_, _, ao, o, h1, h2, h3⟩ := hr.dom c Bc mc hc
  rw [hg.field] at h1; cases h1
  obtain ⟨xs, lo, hi, rfl, hm, hcr, _⟩ := h3
  obtain ⟨x, hx, hv⟩ := hcr 0 (.slice b 0 n none 1) rfl
  simp only [VR] at hv
  obtain ⟨B, m, k, h4, _, h5, h6⟩ := hv
  exact ⟨B, m, h4, by omega, by omega⟩

theorem Grow.learn (hg : Grow h c b n tw fz ty ac rest cs none) (hr : Rel C ρ h w) {Bc mc B m : Nat} (hc : ρ c = some (Bc, mc)) (hb : ρ b = some (B, m)) : Post C ρ h w ρ (learnt h c b n tw fz ty ac rest cs m) w := by
  have p1 := Post.revalue (cs' := cs ++ List.replicate (m - cs.length) .bot) hr hb hg.block (fun xs hxs hcr i a hi => by
    rcases Nat.lt_or_ge i cs.length with hlt | hge
    · rw [List.getElem?_append_left hlt] at hi; exact hcr i a hi
    · rw [List.getElem?_append_right hge, List.getElem?_replicate] at hi
      split at hi <;> try (cases hi; done)
      rename_i hlt
      cases hi
      have : i < xs.length := by omega
      exact ⟨xs[i], List.getElem?_eq_getElem this, by simp only [VR]⟩)
  have hcn := (hr.dom c Bc mc hc).1
  have hbn := (hr.dom b B m hb).1
  have hgc : (h.set b (.cells ty (cs ++ List.replicate (m - cs.length) .bot) true 1 [])).get c = some (.cells tw (.slice b 0 n none 1 :: rest) true fz ac) := by
    rw [Heap.get_set (by omega) (by omega), if_neg (fun e => hg.ne e.symm)]; exact hg.field
  refine p1.trans (Post.revalue (cs' := .slice b 0 n (some m) 1 :: rest) p1.rel hc hgc fun xs hxs hcr i a hi => ?_)
  cases i with
  | zero =>
    simp only [List.getElem?_cons_zero, Option.some.injEq] at hi; subst hi
    obtain ⟨x, hx, hv⟩ := hcr 0 (.slice b 0 n none 1) rfl
    refine ⟨x, hx, ?_⟩
    simp only [VR] at hv ⊢
    obtain ⟨B', m', k, h4, h5, h6, h7⟩ := hv
    rw [hb] at h4; cases h4
    exact ⟨B, m, k, hb, h5, h6, by omega⟩
  | succ i => exact hcr (i + 1) a (by simpa using hi)

/-- what is left, in one form: new bytes in a new block, the old one dead -/
def PutTo (h h' : Heap) (c b n' tw fz ty : Nat) (ac : List (Nat × Nat)) (rest' cs' : List AV) : Prop :=
  h'.next = h.next + 1 ∧ ∀ j, h'.get j = if j = h.next then some (.cells ty cs' true 1 []) else if j = c then some (.cells tw (.slice h.next 0 n' none 1 :: rest') true fz ac) else if j = b then some .dead else h.get j

/-- written in place -/
def InRoom (h hR : Heap) (c b n' tw fz ty m : Nat) (ac : List (Nat × Nat)) (rest' csR : List AV) : Prop :=
  hR.next = h.next ∧ ∀ j, hR.get j = if j = b then some (.cells ty csR true 1 []) else if j = c then some (.cells tw (.slice b 0 n' (some m) 1 :: rest') true fz ac) else h.get j

/-- written into a new block -/
def InNew (h hR : Heap) (c b n' tw fz ty : Nat) (ac : List (Nat × Nat)) (rest' csR : List AV) : Prop :=
  hR.next = h.next + 1 ∧ (∃ o, hR.get b = some (.cells ty o true 1 [])) ∧ ∀ j, j ≠ b → hR.get j = if j = h.next then some (.cells ty csR true 1 []) else if j = c then some (.cells tw (.slice h.next 0 n' none 1 :: rest') true fz ac) else h.get j

theorem putV_nil (xs : List Value) : ∀ o, putV xs o [] = xs := fun o => rfl

theorem room_forget {hR h' : Heap} {n' m B Bc mc : Nat} {rest' cs' csR : List AV} (hr : Rel C ρ h w) (hne : c ≠ b) (hc : ρ c = some (Bc, mc)) (hb : ρ b = some (B, m)) (hm63 : m < 9223372036854775808) (hp : Post C ρ h w ρ' hR w') (hR' : InRoom h hR c b n' tw fz ty m ac rest' csR)
    (hpre : ∃ z, csR = cs' ++ z) (hP : PutTo h h' c b n' tw fz ty ac rest' cs') : ∃ ρ2, Pl.le ρ' ρ2 ∧ Post C ρ h w ρ2 h' w' := by
  obtain ⟨z, rfl⟩ := hpre
  have hb' := hp.le _ _ hb
  have hc' := hp.le _ _ hc
  have hbn := (hr.dom b B m hb).1
  have hcn := (hr.dom c Bc mc hc).1
  have hgb : hR.get b = some (.cells ty (cs' ++ z) true 1 []) := by rw [hR'.2, if_pos rfl]
  have hgc : hR.get c = some (.cells tw (.slice b 0 n' (some m) 1 :: rest') true fz ac) := by rw [hR'.2, if_neg hne, if_pos rfl]
  obtain ⟨q1, q2, q3⟩ := Post.weaken (lim := 0) hp.rel hb' hgb (.inr rfl)
  simp only [kill] at q1 q2 q3
  obtain ⟨_, hBN, ao, o, e1, hB, e3⟩ := hp.rel.dom b B m hb'
  rw [hgb] at e1; cases e1
  obtain ⟨xs, lo, hi, rfl, hxs, hcr, hfc⟩ := e3
  have hnext : (hR.set b .dead).next = h.next := hR'.1
  obtain ⟨nb, h3, ha⟩ : ∃ nb h3, (hR.set b .dead).alloc (.cells ty cs' true 1 []) = some (nb, h3) := ⟨_, _, rfl⟩
  obtain ⟨rfl, a2, _, a4⟩ := Heap.alloc_eq ha
  rw [hnext] at ha a2 a4
  have hcr' : CR C.st ρ' cs' (putV xs 0 []) := fun i a hi => hcr i a (by
    have := (List.getElem?_eq_some_iff.1 hi).1
    rw [List.getElem?_append_left this]; exact hi)
  obtain ⟨p3, p4⟩ := Post.extend (lim := 0) (ys := []) q1.rel ha hBN hB hxs (by simp) (hfc rfl) hcr' ⟨b, m, hb'⟩ (fun a n hin => by cases hin) (fun b2 m2 hb2 => by
    by_cases e : b2 = b
    · subst e; exact .inl q2
    · rcases q3 b2 m2 e hb2 with h1 | ⟨_, _, _, _, _, _, hin, _⟩
      · exact .inl h1
      · cases hin)
  rw [putV_nil, putObj_same hB] at p3
  have hc2 := p3.le _ _ hc'
  have hb2 := p3.le _ _ hb'
  have hgc2 : h3.get c = some (.cells tw (.slice b 0 n' (some m) 1 :: rest') true fz ac) := by
    rw [a4 c (by omega), if_neg (by omega), Heap.get_set (by omega) (by omega), if_neg (fun e => hne e.symm)]; exact hgc
  have p5 := Post.revalue (cs' := .slice h.next 0 n' none 1 :: rest') p3.rel hc2 hgc2 (fun ys hys hcr2 i a hi => by
    cases i with
    | zero =>
      simp only [List.getElem?_cons_zero, Option.some.injEq] at hi; subst hi
      obtain ⟨x, hx, hv⟩ := hcr2 0 (.slice b 0 n' (some m) 1) rfl
      refine ⟨x, hx, ?_⟩
      simp only [VR] at hv ⊢
      obtain ⟨B', m', k, h4, h5, h6, h7⟩ := hv
      rw [hb2] at h4; cases h4
      exact ⟨B, m, k, p4, h5, h6, by omega⟩
    | succ i => exact hcr2 (i + 1) a (by simpa using hi))
  refine ⟨_, p3.le, ((hp.trans q1).trans (p3.trans p5)).congr (fun j => ?_) ?_⟩
  · rw [hP.2, Heap.get_set (by omega) (by omega), a4 j (by omega), Heap.get_set (by omega) (by omega), hR'.2]
    (repeat' split) <;> first | rfl | (exfalso; omega)
  · rw [hP.1]; exact a2.symm

theorem new_forget {hR h' : Heap} {n' m B Bc mc : Nat} {rest' cs' csR : List AV} (hr : Rel C ρ h w) (hne : c ≠ b) (hc : ρ c = some (Bc, mc)) (hb : ρ b = some (B, m)) (hp : Post C ρ h w ρ' hR w') (hR' : InNew h hR c b n' tw fz ty ac rest' csR)
    (hpl : ∃ x, ρ' h.next = some x) (hpre : ∃ z, csR = cs' ++ z) (hP : PutTo h h' c b n' tw fz ty ac rest' cs') : ∃ ρ2, Pl.le ρ' ρ2 ∧ Post C ρ h w ρ2 h' w' := by
  obtain ⟨z, rfl⟩ := hpre
  obtain ⟨⟨Bn, mn⟩, hpl⟩ := hpl
  obtain ⟨hn, ⟨ob, hgb⟩, hget⟩ := hR'
  have hb' := hp.le _ _ hb
  have hbn := (hr.dom b B m hb).1
  have hcn := (hr.dom c Bc mc hc).1
  obtain ⟨q1, q2, q3⟩ := Post.weaken (lim := 0) hp.rel hb' hgb (.inr rfl)
  simp only [kill] at q1 q2 q3
  have hgn : (hR.set b .dead).get h.next = some (.cells ty (cs' ++ z) true 1 []) := by
    rw [Heap.get_set (by omega) (by omega), if_neg (by omega), hget _ (by omega), if_pos rfl]
  have p5 := Post.revalue (cs' := cs') q1.rel hpl hgn (fun ys hys hcr2 i a hi => hcr2 i a (by
    have := (List.getElem?_eq_some_iff.1 hi).1
    rw [List.getElem?_append_left this]; exact hi))
  refine ⟨_, Pl.le_refl _, ((hp.trans q1).trans p5).congr (fun j => ?_) ?_⟩
  · rw [hP.2, Heap.get_set (by omega) (by omega), Heap.get_set (by omega) (by omega)]
    by_cases eb : j = b
    · (repeat' split) <;> first | rfl | (exfalso; omega)
    · rw [hget j eb]
      (repeat' split) <;> first | rfl | (exfalso; omega)
  · rw [hP.1, ← hn]; rfl
end
end Go.AM

/- FUNCTIONS THAT TURN THE MEMORY, as what is proved of them. -/
namespace Go.AM
section
variable {C : Cx} {ρ ρ' : Pl} {h h' h1 h2 : Heap} {w w' : World} {T : Tb} {prog : Nat → Option AFun}

/-- what a function's run ends with, if it ends -/
noncomputable def ranF (prog : Nat → Option AFun) (f : Nat) (args : List AV) (h : Heap) : Option (ARes × Heap) :=
  open Classical in if hx : ∃ r n, run prog n (.fn f) args h = some r then some (Classical.choose hx) else none

theorem ranF_run {f : Nat} {args : List AV} {r : ARes × Heap} (hr : ranF prog f args h = some r) : ∃ n, run prog n (.fn f) args h = some r := by
  unfold ranF at hr
  split at hr
  · rename_i hx
    simp only [Option.some.injEq] at hr
    rw [← hr]
    exact Classical.choose_spec hx
  · cases hr

theorem ranF_of {f n : Nat} {args : List AV} {r : ARes × Heap} (hr : run prog n (.fn f) args h = some r) : ranF prog f args h = some r := by
  have hx : ∃ r n, run prog n (.fn f) args h = some r := ⟨r, n, hr⟩
  unfold ranF
  rw [dif_pos hx]
  obtain ⟨m, hm⟩ := Classical.choose_spec hx
  have h1 := run_mono (prog := prog) (Nat.le_max_left n m) _ _ _ _ hr
  have h2 := run_mono (prog := prog) (Nat.le_max_right n m) _ _ _ _ hm
  rw [h1] at h2
  exact h2.symm

theorem ranF_ok {f : Nat} (hm : T.P.follows .mixedOrders = true) (hpo : ProgOK T prog) : HSpecOK T f (ranF prog f) := by
  intro C hT hg args r h h' ρ w xs hr hrel hv
  subst hT
  obtain ⟨n, hn⟩ := ranF_run hr
  exact run_ok hm hg hpo n (.fn f) args h r h' ρ w xs hn hrel hv trivial

theorem learnt_get {c b n tw fz ty m : Nat} {ac : List (Nat × Nat)} {rest cs : List AV} (j : Nat) : (learnt h c b n tw fz ty ac rest cs m).get j =
    if j = c then some (.cells tw (.slice b 0 n (some m) 1 :: rest) true fz ac) else if j = b then some (.cells ty (cs ++ List.replicate (m - cs.length) .bot) true 1 []) else h.get j := by
  unfold learnt
  rw [Heap.get_set (by omega) (by omega), Heap.get_set (by omega) (by omega)]
  (repeat' split) <;> first | rfl | (exfalso; omega)

theorem learnt_next {c b n tw fz ty m : Nat} {ac : List (Nat × Nat)} {rest cs : List AV} : (learnt h c b n tw fz ty ac rest cs m).next = h.next := rfl

theorem put_case {f : Nat} {args : List AV} {xs : List Value} {v : AV} {c b n n' tw fz ty : Nat} {ac : List (Nat × Nat)} {rest rest' cs cs' : List AV} (hm : C.T.P.follows .mixedOrders = true) (hg : C.globOK) (hpo : ProgOK C.T prog)
    (hrel : Rel C ρ h w) (hv : VRs C.st ρ args xs) (hG : Grow h c b n tw fz ty ac rest cs none) (hc : ∃ x, ρ c = some x)
    (hK : ∀ m, n ≤ m → m < 9223372036854775808 → ∃ fuel hR csR z, run prog fuel (.fn f) args (learnt h c b n tw fz ty ac rest cs m) = some (.ret v, hR) ∧ csR = cs' ++ z ∧
      (InRoom h hR c b n' tw fz ty m ac rest' csR ∨ InNew h hR c b n' tw fz ty ac rest' csR)) (hP : PutTo h h' c b n' tw fz ty ac rest' cs') :
    WhoOK C (.fn f) xs ρ w (CallR C ρ h w (.ret v) h') := by
  obtain ⟨⟨Bc, mc⟩, hc⟩ := hc
  obtain ⟨B, m, hb, hle, hm63⟩ := hG.place hrel hc
  have hcn := (hrel.dom c Bc mc hc).1
  have p1 := hG.learn hrel hc hb
  obtain ⟨fuel, hR, csR, z, hrun, hz, hcase⟩ := hK m hle hm63
  refine (run_ok hm hg hpo fuel (.fn f) args _ _ hR ρ w xs hrun p1.rel hv trivial).mono fun e w' ⟨ρ', q1, q2⟩ => ?_
  have q := p1.trans q1
  have fin : ∀ ρ2, Pl.le ρ' ρ2 → EndR C ρ2 (.ret v) e := fun ρ2 hl => by
    cases e with
    | returned x => exact VR.mono hl _ _ q2
    | panicked ch => exact q2.elim
    | outgrown => exact q2.elim
  rcases hcase with h1 | h1
  · obtain ⟨ρ2, l2, p2⟩ := room_forget hrel hG.ne hc hb hm63 q h1 ⟨z, hz⟩ hP
    exact ⟨ρ2, p2, fin ρ2 l2⟩
  · have hpl : ∃ x, ρ' h.next = some x := by
      have hc' := q.le _ _ hc
      obtain ⟨_, _, ao, o, e1, e2, e3⟩ := q.rel.dom c Bc mc hc'
      rw [h1.2.2 c hG.ne, if_neg (by omega), if_pos rfl] at e1
      cases e1
      obtain ⟨ys, lo, hi, rfl, _, hcr, _⟩ := e3
      obtain ⟨x, _, hx⟩ := hcr 0 _ rfl
      simp only [VR] at hx
      obtain ⟨B2, m2, _, h2, _⟩ := hx
      exact ⟨_, h2⟩
    obtain ⟨ρ2, l2, p2⟩ := new_forget hrel hG.ne hc hb q h1 hpl ⟨z, hz⟩ hP
    exact ⟨ρ2, p2, fin ρ2 l2⟩

/-- the one form of what is left -/
def putH (h : Heap) (c b n' tw fz ty : Nat) (ac : List (Nat × Nat)) (rest' cs' : List AV) : Heap :=
  { next := h.next + 1, m := (((h.set b .dead).set c (.cells tw (.slice h.next 0 n' none 1 :: rest') true fz ac)).m.set h.next (.cells ty cs' true 1 [])) }

theorem putH_to {c b n' tw fz ty : Nat} {ac : List (Nat × Nat)} {rest' cs' : List AV} : PutTo h (putH h c b n' tw fz ty ac rest' cs') c b n' tw fz ty ac rest' cs' := by
  refine ⟨rfl, fun j => ?_⟩
  obtain ⟨_, _, _, a4⟩ := Heap.alloc_eq (h := (h.set b .dead).set c (.cells tw (.slice h.next 0 n' none 1 :: rest') true fz ac)) (o := .cells ty cs' true 1 []) rfl
  have : (putH h c b n' tw fz ty ac rest' cs').get j = _ := a4 j (by omega)
  rw [this, Heap.get_set (by omega) (by omega), Heap.get_set (by omega) (by omega)]
  have hnx : ((h.set b .dead).set c (.cells tw (.slice h.next 0 n' none 1 :: rest') true fz ac)).next = h.next := rfl
  rw [hnx]
  (repeat' split) <;> first | rfl | (exfalso; omega)
end
end Go.AM

/- STEPS THAT LOOK AT MEMORY OR TURN IT. -/
namespace Go.AM
variable {t : Tm} {h h' : Heap}

theorem find_lt {b : Nat} {o : AObj} (hf : h.find b = some o) : b < h.next := (Heap.find_some.1 hf).1
theorem find_get {b : Nat} {o : AObj} (hf : h.find b = some o) : h.get b = some o := (Heap.find_some.1 hf).2
theorem set_next {b : Nat} {o : AObj} : (h.set b o).next = h.next := rfl

theorem find_set {i j : Nat} {o : AObj} (hi : i < h.next) : (h.set i o).find j = if i = j then some o else h.find j := by
  unfold Heap.find
  rw [set_next, Heap.get_set (by omega) (by omega)]
  by_cases e : i = j
  · subst e
    have : Nat.blt i h.next = true := Nat.blt_eq.mpr hi
    simp [this]
  · simp [e]

theorem find_set_same {i : Nat} {o o' : AObj} (hf : h.find i = some o') : (h.set i o).find i = some o := by rw [find_set (find_lt hf), if_pos rfl]
theorem find_set_ne {i j : Nat} {o o' : AObj} (hf : h.find i = some o') (hne : i ≠ j) : (h.set i o).find j = h.find j := by rw [find_set (find_lt hf), if_neg hne]

theorem find_alloc {o : AObj} {b : Nat} (ha : h.alloc o = some (b, h')) (j : Nat) : h'.find j = if h.next = j then some o else h.find j := by
  obtain ⟨_, h2, _, h4⟩ := Heap.alloc_eq ha
  unfold Heap.find
  rw [h2, h4 j (by omega)]
  by_cases e : h.next = j
  · subst e
    have : Nat.blt h.next (h.next + 1) = true := Nat.blt_eq.mpr (by omega)
    simp [this]
  · simp only [e, if_false]
    cases hb : Nat.blt j h.next with
    | true =>
      have : j < h.next := by simpa [Nat.blt_eq] using hb
      have : Nat.blt j (h.next + 1) = true := Nat.blt_eq.mpr (by omega)
      rw [this]
    | false =>
      have h1 : ¬ j < h.next := fun hh => by rw [Nat.blt_eq.mpr hh] at hb; cases hb
      have : Nat.blt j (h.next + 1) = false := by
        cases hb2 : Nat.blt j (h.next + 1) with
        | false => rfl
        | true => have : j < h.next + 1 := by simpa [Nat.blt_eq] using hb2
                  omega
      rw [this]

theorem over_eq : ∀ {cs vs : List AV} {o : Nat}, o + vs.length ≤ cs.length → over cs o vs = some (cs.take o ++ vs ++ cs.drop (o + vs.length))
  | cs, [], 0, _ => by simp [over]
  | [], v :: vs, 0, h => by simp at h
  | c :: cs, v :: vs, 0, h => by
    simp only [over]
    have := over_eq (cs := cs) (vs := vs) (o := 0) (by simp at h ⊢; omega)
    rw [this]
    simp
  | [], vs, o + 1, h => by simp at h
  | c :: cs, vs, o + 1, h => by
    simp only [over]
    rw [over_eq (cs := cs) (vs := vs) (o := o) (by simp at h ⊢; omega)]
    simp only [Option.some.injEq, List.take_succ_cons, List.cons_append]
    have : o + 1 + vs.length = (o + vs.length) + 1 := by omega
    rw [this, List.drop_succ_cons]

theorem writeAt_eq {b o ty fz : Nat} {cs vs : List AV} (hf : h.find b = some (.cells ty cs true fz [])) (hz : fz ≤ o + 1) (hc : allCells vs = true) (hl : o + vs.length ≤ cs.length) (hne : vs ≠ []) :
    writeAt h b o vs = some (h.set b (.cells ty (cs.take o ++ vs ++ cs.drop (o + vs.length)) true fz [])) := by
  cases vs with
  | nil => exact absurd rfl hne
  | cons v vs =>
    have hg := find_get hf
    unfold writeAt
    simp only [hg]
    rw [if_neg (by omega), if_pos hc, over_eq hl]
    rfl

theorem writeAt_nil {b o : Nat} : writeAt h b o [] = some h := rfl

theorem ev_loadP {c o ty fz : Nat} {cs : List AV} {own : Bool} {an : List (Nat × Nat)} {x : Opd} {v : AV} (hf : h.find c = some (.cells ty cs own fz an)) (hv : cs[o]? = some v) (hx : x.ev t = .ptr c o) : evOp (.load false 1 x) t h = some (v, h) := by
  have hlt := (List.getElem?_eq_some_iff.1 hv).1
  refine ev_load hx ?_
  simp only [loadA, atA, readAt, hf]
  rw [cut_eq (by omega)]
  have : (cs.drop o).take 1 = [v] := by
    apply List.ext_getElem?
    intro i
    cases i with
    | zero => rw [List.getElem?_take_of_lt (by omega), List.getElem?_drop, Nat.add_zero, hv]; rfl
    | succ i =>
      rw [List.getElem?_eq_none (by rw [List.length_take]; omega)]
      simp
  rw [this]
  rfl

theorem ev_storeP {c o ty fz : Nat} {cs : List AV} {a x : Opd} {v : AV} (hf : h.find c = some (.cells ty cs true fz [])) (ha : a.ev t = .ptr c o) (hx : x.ev t = v) (h1 : v.cells = [v]) (h2 : v.isCell = true) (ho : o < cs.length) (hz : fz ≤ o + 1) :
    evOp (.store 1 a x) t h = some (undefA, h.set c (.cells ty (cs.take o ++ v :: cs.drop (o + 1)) true fz [])) := by
  simp only [evOp, ha, hx, h1, List.length_cons, List.length_nil, Nat.zero_add, if_true]
  rw [writeAt_eq hf hz (by simp [allCells, h2]) (by simp; omega) (by simp)]
  simp

/-- a slice of a slice whose capacity is known -/
theorem ev_sliceHi {b o n k e : Nat} {x hi : Opd} {m : Nat} {kk : IntKind} (hx : x.ev t = .slice b o n (some k) e) (hh : hi.ev t = .int kk m) (hm : m ≤ k) (hk : 0 < k) : evOp (.sliceSl e x none (some hi) none) t h = some (.slice b o m (some k) e, h) := by
  have h1 : boundA (.int kk (m : Int)) k = some m := by simp only [boundA]; rw [if_pos (by omega)]; simp
  have h2 : ¬ (some k = some 0) := by simp; omega
  simp only [evOp, hx, extA, sliceSlA, ne_eq, not_true_eq_false, if_false, capA, Option.getD_some, boundO, hh, h1, h2, Nat.zero_mul, Nat.add_zero, Nat.sub_zero]

theorem ev_sliceLo {b o n k e : Nat} {x lo : Opd} {m : Nat} {kk : IntKind} (hx : x.ev t = .slice b o n (some k) e) (hh : lo.ev t = .int kk m) (hm : m ≤ n) (hk : m < k) (hn : n ≤ k) : evOp (.sliceSl e x (some lo) none none) t h = some (.slice b (o + m * e) (n - m) (some (k - m)) e, h) := by
  have h1 : boundA (.int kk (m : Int)) n = some m := by simp only [boundA]; rw [if_pos (by omega)]; simp
  have h2 : ¬ (some k = some m) := by simp; omega
  simp only [evOp, hx, extA, sliceSlA, ne_eq, not_true_eq_false, if_false, capA, Option.getD_some, boundO, hh, h1, h2]
end Go.AM

/- DEFERRED CALLS on general inputs. -/
namespace Go.AM
variable {prog : Nat → Option AFun}

/-- how a frame leaves -/
def Leaves (prog : Nat → Option AFun) (rs : List ARV) (t : Tm) (ds : List ADef) (mo : AMode) (h : Heap) (P : ARes → Heap → Prop) : Prop := ∃ n r h', leaveA prog (run prog n) n rs t ds mo h = some (r, h') ∧ P r h'

theorem CallA_leave {f nt : Nat} {rs : List ARV} {c : ACode} {l : List AV} {h : Heap} {P : ARes → Heap → Prop} (hf : prog f = some (.body nt rs false c))
    (he : Ev prog c [] ⟨argsT l, [], h⟩ fun x s => match x with | .nrm | .ret => Leaves prog rs s.t s.d .ret s.h P | .pan v => Leaves prog rs s.t s.d (.pan v) s.h P | _ => False) : CallA prog (.fn f) l h P := by
  obtain ⟨n, ⟨x, s⟩, h1, h2⟩ := he
  obtain ⟨a, h4, h5⟩ := bind_some h1
  simp only [evK, Option.some.injEq] at h5
  subst h5
  have go : ∀ mo, Leaves prog rs s.t s.d mo s.h P → ∃ m, n ≤ m ∧ ∃ r h', leaveA prog (run prog m) m rs s.t s.d mo s.h = some (r, h') ∧ P r h' := fun mo ⟨m, r, h', g1, g2⟩ =>
    ⟨max n m, Nat.le_max_left _ _, r, h', leaveA_mono (run_mono (Nat.le_max_right n m)) (Nat.le_max_right n m) g1, g2⟩
  cases x with
  | exit i => exact h2.elim
  | nrm =>
    obtain ⟨m, hm, r, h', g1, g2⟩ := go _ h2
    exact ⟨m + 1, r, h', by simp only [run, hf, evCode_mono (run_mono hm) hm _ h4, g1], g2⟩
  | ret =>
    obtain ⟨m, hm, r, h', g1, g2⟩ := go _ h2
    exact ⟨m + 1, r, h', by simp only [run, hf, evCode_mono (run_mono hm) hm _ h4, g1], g2⟩
  | pan v =>
    obtain ⟨m, hm, r, h', g1, g2⟩ := go _ h2
    exact ⟨m + 1, r, h', by simp only [run, hf, evCode_mono (run_mono hm) hm _ h4, g1], g2⟩

theorem Ev_defer {f : Opd} {args : List Opd} {os : List AOper} {g : Nat} {l : List AV} {k : List KF} {t : Tm} {d : List ADef} {h : Heap} {Q : AX → St → Prop} (hc : calleeA (f.ev t) (evalAll t args) = some (.fn g, l))
    (hn : Ev prog (.reg os) k ⟨t, .call g l :: d, h⟩ Q) : Ev prog (.reg (⟨none, none, .deferv f args⟩ :: os)) k ⟨t, d, h⟩ Q := by
  obtain ⟨n, r, h1, h2⟩ := hn
  refine ⟨n, r, ?_, h2⟩
  simp only [evCode] at h1 ⊢
  simp only [evOpers, evOper, wantedA, hc]
  exact h1

/-- nothing else is deferred, and the deferred call changes nothing -/
theorem Leaves_one {rs : List ARV} {t : Tm} {g : Nat} {a : List AV} {h : Heap} {P : ARes → Heap → Prop} {v : AV} {vs : List AV} (hd : ∀ rc n, evDeferred prog rc n g a .ret h = some (.ret v, .ret, h)) (hr : resultsA t h rs = some vs) (hp : P (.ret (resultV vs)) h) :
    Leaves prog rs t [.call g a] .ret h P := ⟨0, .ret (resultV vs), h, by simp only [leaveA, hd, hr, Option.map_some], hp⟩
end Go.AM
namespace Go.AM
variable {t : Tm} {h h' : Heap}

/-- a block more -/
def Heap.push (h : Heap) (o : AObj) : Heap := { next := h.next + 1, m := h.m.set h.next o }
theorem alloc_push {o : AObj} : h.alloc o = some (h.next, h.push o) := rfl
theorem push_next {o : AObj} : (h.push o).next = h.next + 1 := rfl
theorem find_push {o : AObj} (j : Nat) : (h.push o).find j = if h.next = j then some o else h.find j := find_alloc alloc_push j
theorem find_push_old {o o' : AObj} {j : Nat} (hf : h.find j = some o') : (h.push o).find j = some o' := by
  rw [find_push, if_neg (by have := find_lt hf; omega), hf]
theorem find_push_new {o : AObj} : (h.push o).find h.next = some o := by rw [find_push, if_pos rfl]

theorem flat_rep {v : AV} : ∀ n, List.flatten (List.replicate n [v]) = List.replicate n v
  | 0 => rfl
  | n + 1 => by rw [List.replicate_succ, List.flatten_cons, flat_rep n, List.replicate_succ]; rfl

theorem allCells_rep {v : AV} (hv : v.isCell = true) : ∀ n, allCells (List.replicate n v) = true
  | 0 => rfl
  | n + 1 => by simp [List.replicate_succ, allCells, hv, allCells_rep hv n]

theorem allCells_bytes : ∀ l : List UInt8, allCells (l.map byteA) = true
  | [] => rfl
  | _ :: l => by simp only [List.map_cons, allCells, allCells_bytes l, Bool.and_true]; rfl

theorem ev_zeros {ty m : Nat} {s x : Opd} (hs : s.ev t = .nilslice) (hx : x.ev t = .int .i64 m) (h0 : 0 < m) (hm : m ≤ 67108864) :
    evOp (.append .zeros ty 1 1 [.int .u8 0] s x) t h = some (.slice h.next 0 m none 1, h.push (.cells ty (List.replicate m (.int .u8 0)) true 1 [])) := by
  simp only [evOp, hs, hx]
  rw [if_pos (by omega), flat_rep]
  simp only [Int.toNat_natCast, appendA]
  rw [if_pos ⟨allCells_rep rfl m, by simp⟩, if_neg (by omega), if_pos (by unfold roomA; omega)]
  rfl

theorem ev_sliceNone {b o n m ty fz : Nat} {cs : List AV} {an : List (Nat × Nat)} {x hi : Opd} {kk : IntKind} (hx : x.ev t = .slice b o n none 1) (hh : hi.ev t = .int kk m) (hf : h.find b = some (.cells ty cs true fz an)) (hm : m ≤ max n (cs.length - o)) (h0 : 0 < max n (cs.length - o)) :
    evOp (.sliceSl 1 x none (some hi) none) t h = some (.slice b o m none 1, h) := by
  have hd : Nat.div (cs.length - o) 1 = cs.length - o := Nat.div_one _
  have h1 : boundA (.int kk (m : Int)) (max n (cs.length - o)) = some m := by simp only [boundA]; rw [if_pos (by omega)]; simp
  simp only [evOp, hx, extA, hf, hd, sliceSlA, ne_eq, not_true_eq_false, if_false, capA, Option.getD_none, boundO, hh, h1, reduceCtorEq, h0, if_true, Nat.zero_mul, Nat.add_zero, Nat.sub_zero]

/-- bytes of a slice or a string copied into a block of one's own -/
theorem ev_copyB {b o n n2 ty fz : Nat} {cap : Option Nat} {cs new : List AV} {d s : Opd} {v : AV} (hd : d.ev t = .slice b o n cap 1) (hs : s.ev t = v) (hl : lenA v = some n2) (hn : n2 ≤ n) (hsrc : sourceA h 1 v n2 = some new) (hlen : new.length = n2)
    (hf : h.find b = some (.cells ty cs true fz [])) (hz : fz ≤ o + 1) (hc : allCells new = true) (hfit : o + n2 ≤ cs.length) (h0 : 0 < n2) :
    evOp (.copy 1 d s) t h = some (.int .i64 (n2 : Nat), h.set b (.cells ty (cs.take o ++ new ++ cs.drop (o + n2)) true fz [])) := by
  have hmin : min n2 n = n2 := by omega
  have hne : new ≠ [] := by intro e; subst e; simp at hlen; omega
  have hl2 : lenA (.slice b o n cap 1) = some n := rfl
  simp only [evOp, hd, hs, hl, hl2, hmin, hsrc, if_true]
  rw [writeAt_eq hf hz hc (by omega) hne, hlen]; rfl

theorem ev_copy0 {b o n : Nat} {cap : Option Nat} {d s : Opd} {v : AV} (hd : d.ev t = .slice b o n cap 1) (hs : s.ev t = v) (hl : lenA v = some 0) (hsrc : sourceA h 1 v 0 = some []) : evOp (.copy 1 d s) t h = some (.int .i64 (0 : Nat), h) := by
  have hl2 : lenA (.slice b o n cap 1) = some n := rfl
  simp only [evOp, hd, hs, hl, hl2, Nat.zero_min, hsrc, if_true, writeAt_nil]; rfl

theorem ev_sliceLo0 {b o n k e : Nat} {x lo : Opd} {kk : IntKind} (hx : x.ev t = .slice b o n (some k) e) (hh : lo.ev t = .int kk 0) (hk : 0 < k) (hn : n ≤ k) : evOp (.sliceSl e x (some lo) none none) t h = some (.slice b o n (some k) e, h) := by
  have := ev_sliceLo (t := t) (h := h) (m := 0) hx (by simpa using hh) (Nat.zero_le _) hk hn
  simpa using this
end Go.AM

/- WHAT READS THE SAME BEHIND OTHER WORK: lists that are read, cut, appended to. -/
namespace Go.AM
variable {t : Tm} {h h' h2 : Heap} {S S' : Nat → Prop}

def cellsAt (h : Heap) (j : Nat) : Option (List AV) := match h.find j with | some (.cells _ cs _ _ _) => some cs | _ => none

theorem cellsAt_of {j ty fz : Nat} {cs : List AV} {own : Bool} {an : List (Nat × Nat)} (hf : h.find j = some (.cells ty cs own fz an)) : cellsAt h j = some cs := by unfold cellsAt; rw [hf]

theorem cellsAt_some {j : Nat} {cs : List AV} (hc : cellsAt h j = some cs) : ∃ ty own fz an, h.find j = some (.cells ty cs own fz an) := by
  unfold cellsAt at hc
  split at hc
  · rename_i hf; cases hc; exact ⟨_, _, _, _, hf⟩
  · cases hc

theorem readAt_cellsAt (h : Heap) (b o n : Nat) : readAt h b o n = (cellsAt h b).bind fun cs => cut cs o n := by
  unfold readAt cellsAt
  cases h.find b with
  | none => rfl
  | some x => cases x <;> rfl

theorem cellsAt_lt {j : Nat} {cs : List AV} (hc : cellsAt h j = some cs) : j < h.next := by
  obtain ⟨_, _, _, _, hf⟩ := cellsAt_some hc
  exact find_lt hf

/-- the cells of blocks of a set stand -/
structure Keep (S : Nat → Prop) (h h' : Heap) : Prop where
  next : h.next ≤ h'.next
  cells : ∀ j cs, S j → cellsAt h j = some cs → cellsAt h' j = some cs

theorem Keep.refl : Keep S h h := ⟨Nat.le_refl _, fun _ _ _ h => h⟩
theorem Keep.trans (h1 : Keep S h h') (h2' : Keep S h' h2) : Keep S h h2 := ⟨Nat.le_trans h1.next h2'.next, fun j cs hS hc => h2'.cells j cs hS (h1.cells j cs hS hc)⟩
theorem Keep.sub (hk : Keep S h h') (hs : ∀ j, S' j → S j) : Keep S' h h' := ⟨hk.next, fun j cs hS hc => hk.cells j cs (hs j hS) hc⟩

/-- blocks of a set stand as they are -/
structure Same (S : Nat → Prop) (h h' : Heap) : Prop where
  next : h.next ≤ h'.next
  get : ∀ j, S j → j < h.next → h'.get j = h.get j

theorem Same.refl : Same S h h := ⟨Nat.le_refl _, fun _ _ _ => rfl⟩
theorem Same.trans (h1 : Same S h h') (h2' : Same S h' h2) : Same S h h2 :=
  ⟨Nat.le_trans h1.next h2'.next, fun j hS hj => (h2'.get j hS (Nat.lt_of_lt_of_le hj h1.next)).trans (h1.get j hS hj)⟩
theorem Same.sub (hk : Same S h h') (hs : ∀ j, S' j → S j) : Same S' h h' := ⟨hk.next, fun j hS hj => hk.get j (hs j hS) hj⟩

theorem Same.find (hk : Same S h h') {j : Nat} {o : AObj} (hS : S j) (hf : h.find j = some o) : h'.find j = some o := by
  obtain ⟨h1, h2⟩ := Heap.find_some.1 hf
  exact Heap.find_some.2 ⟨Nat.lt_of_lt_of_le h1 hk.next, by rw [hk.get j hS h1]; exact h2⟩

theorem Same.keep (hk : Same S h h') : Keep S h h' := ⟨hk.next, fun j cs hS hc => by
  obtain ⟨_, _, _, _, hf⟩ := cellsAt_some hc
  exact cellsAt_of (hk.find hS hf)⟩

theorem Same.set {i : Nat} {o o' : AObj} (hf : h.find i = some o') (hS : ∀ j, S j → j ≠ i) : Same S h (h.set i o) :=
  ⟨Nat.le_refl _, fun j hj hlt => by rw [Heap.get_set (by omega) (by omega), if_neg (fun e => hS j hj e.symm)]⟩
theorem Same.push {o : AObj} : Same S h (h.push o) := ⟨by rw [push_next]; omega, fun j _ hlt => by
  have := (Heap.alloc_eq (h := h) (o := o) alloc_push).2.2.2 j (by omega)
  rw [this, if_neg (by omega)]⟩

/-! Slices -/
def SlF (h : Heap) (S : Nat → Prop) (e n : Nat) : AV → Prop
  | .slice b _ _ c e' => S b ∧ e' = e ∧ (∀ k, c = some k → n ≤ k) ∧ ∃ cs, cellsAt h b = some cs
  | .pslice _ _ _ c => ∀ k, c = some k → n ≤ k
  | _ => True

/-- a slice of n elements of e cells that reads as these cells, out of blocks of a set -/
structure Sl (h : Heap) (S : Nat → Prop) (e : Nat) (v : AV) (n : Nat) (cs : List AV) : Prop where
  rd : Reads h e v n cs
  f : SlF h S e n v

theorem Sl.keep {e n : Nat} {v : AV} {cs : List AV} (hs : Sl h S e v n cs) (hk : Keep S h h') : Sl h' S e v n cs := by
  obtain ⟨⟨h1, h2, h3, h4⟩, hf⟩ := hs
  refine ⟨⟨h1, h2, h3, h4.imp id fun h4 => ?_⟩, ?_⟩
  · cases v <;> simp only at h4 ⊢ <;> try exact h4
    simp only [SlF] at hf
    refine ⟨h4.1, ?_⟩
    have := h4.2
    rw [readAt_cellsAt] at this ⊢
    obtain ⟨_, _, _, ds, hc⟩ := hf
    rw [hc] at this
    rw [hk.cells _ _ (by assumption) hc]; exact this
  · cases v <;> simp only [SlF] at hf ⊢ <;> try exact hf
    obtain ⟨f1, f2, f3, ds, hc⟩ := hf
    exact ⟨f1, f2, f3, ds, hk.cells _ _ f1 hc⟩

theorem Sl.sub {e n : Nat} {v : AV} {cs : List AV} (hs : Sl h S e v n cs) (hS : ∀ j, S j → j < h.next → S' j) : Sl h S' e v n cs :=
  ⟨hs.rd, by
    have hf := hs.f
    cases v <;> simp only [SlF] at hf ⊢ <;> try exact hf
    obtain ⟨f1, f2, f3, ds, hc⟩ := hf
    exact ⟨hS _ f1 (cellsAt_lt hc), f2, f3, ds, hc⟩⟩

theorem boundA_int {kk : IntKind} {m n : Nat} (hm : m ≤ n) : boundA (.int kk (m : Int)) n = some m := by
  simp only [boundA]; rw [if_pos (by omega)]; simp

theorem ext_some {e n : Nat} {b o : Nat} {c : Option Nat} {e' : Nat} (hc : ∃ cs, cellsAt h b = some cs) : ∃ k, extA h (.slice b o n c e') e = some k := by
  obtain ⟨cs, hc⟩ := hc
  obtain ⟨ty, own, fz, an, hf⟩ := cellsAt_some hc
  cases c with
  | some c => exact ⟨0, rfl⟩
  | none =>
    cases own with
    | true => exact ⟨_, by simp only [extA, hf]; rfl⟩
    | false => exact ⟨0, by simp only [extA, hf]⟩

theorem cut_drop {cs r : List AV} {o n m : Nat} (h : cut cs o n = some r) (hm : m ≤ n) : cut cs (o + m) (n - m) = some (r.drop m) := by
  rw [cut_cut h (by omega)]
  obtain ⟨h1, _, _⟩ := cut_get h
  rw [cut_eq (by omega), List.take_of_length_le (by simp; omega)]

theorem cut_take {cs r : List AV} {o n m : Nat} (h : cut cs o n = some r) (hm : m ≤ n) : cut cs o m = some (r.take m) := by
  have := cut_cut (i := 0) (m := m) h (by omega)
  rw [Nat.add_zero] at this
  obtain ⟨h1, _, _⟩ := cut_get h
  rw [this, cut_eq (by omega), List.drop_zero]

theorem reads0 {e : Nat} {v : AV} (hl : lenA v = some 0) (hs : ∀ s, v ≠ .str s) : Reads h e v 0 [] := ⟨hl, by simp, hs, .inl rfl⟩

theorem Sl.lo {e n m : Nat} {v : AV} {cs : List AV} {x lo : Opd} {kk : IntKind} (hs : Sl h S e v n cs) (hx : x.ev t = v) (hl : lo.ev t = .int kk (m : Nat)) (hm : m ≤ n) :
    ∃ v', evOp (.sliceSl e x (some lo) none none) t h = some (v', h) ∧ Sl h S e v' (n - m) (cs.drop (m * e)) := by
  obtain ⟨⟨h1, h2, h3, h4⟩, hf⟩ := hs
  have hme : m * e ≤ n * e := Nat.mul_le_mul_right _ hm
  have hlen : (cs.drop (m * e)).length = (n - m) * e := by rw [List.length_drop, h2, Nat.sub_mul]
  have hnil : n - m = 0 → cs.drop (m * e) = [] := fun h0 => List.eq_nil_of_length_eq_zero (by rw [hlen, h0, Nat.zero_mul])
  subst hx
  generalize hxe : x.ev t = v at *
  cases v <;> simp only [lenA, Option.some.injEq, reduceCtorEq] at h1
  case str s => exact absurd rfl (h3 s)
  case nilslice =>
    subst h1
    obtain rfl : m = 0 := by omega
    refine ⟨.nilslice, ?_, ?_⟩
    · simp only [evOp, hxe, extA, sliceSlA, boundO, hl, boundA_int (Nat.le_refl 0)]
    · rw [hnil (by omega)]; exact ⟨reads0 rfl (by simp), trivial⟩
  case eslice =>
    subst h1
    obtain rfl : m = 0 := by omega
    refine ⟨.eslice, ?_, ?_⟩
    · simp only [evOp, hxe, extA, sliceSlA, boundO, hl, boundA_int (Nat.le_refl 0)]
    · rw [hnil (by omega)]; exact ⟨reads0 rfl (by simp), trivial⟩
  case slice b o n' c e' =>
    subst h1
    simp only [SlF] at hf
    obtain ⟨f1, rfl, f3, f4⟩ := hf
    obtain ⟨k, hk⟩ := ext_some (e := e') (n := n') (o := o) (c := c) (e' := e') f4
    have rdm : ∀ c', (n' - m = 0 ∨ True) → Reads h e' (.slice b (o + m * e') (n' - m) c' e') (n' - m) (cs.drop (m * e')) := fun c' _ => by
      refine ⟨rfl, hlen, by simp, ?_⟩
      rcases Nat.eq_zero_or_pos (n' - m) with h0 | h0
      · exact .inl h0
      · right
        have h5 := (h4.resolve_left (by omega)).2
        refine ⟨rfl, ?_⟩
        rw [readAt_cellsAt] at h5 ⊢
        obtain ⟨ds, hc⟩ := f4
        rw [hc] at h5 ⊢
        rw [Nat.sub_mul]
        exact cut_drop h5 hme
    have base : evOp (.sliceSl e' x (some lo) none none) t h = match sliceSlA e' (.slice b o n' c e') t (some lo) none none k with | some v => some (v, h) | none => none := by
      simp only [evOp, hxe, hk]
      generalize sliceSlA _ _ _ _ _ _ _ = q
      cases q <;> rfl
    rw [base]
    simp only [sliceSlA, ne_eq, not_true_eq_false, if_false, capA, boundO, hl, boundA_int hm]
    by_cases hcm : c = some m
    · have := f3 m hcm
      rw [if_pos hcm]
      refine ⟨_, rfl, ?_⟩
      have h0 : n' - m = 0 := by omega
      rw [hnil h0, h0]
      exact ⟨reads0 rfl (by simp), f1, rfl, by intro k hk; omega, f4⟩
    · rw [if_neg hcm]
      cases c with
      | some c =>
        refine ⟨_, rfl, rdm _ (.inr trivial), f1, rfl, ?_, f4⟩
        intro k hk; cases hk
        have := f3 c rfl; omega
      | none =>
        simp only
        by_cases hmx : m < max n' k
        · rw [if_pos hmx]
          exact ⟨_, rfl, rdm _ (.inr trivial), f1, rfl, (by intro k hk; cases hk), f4⟩
        · rw [if_neg hmx]
          have h0 : n' - m = 0 := by omega
          rw [hnil h0, h0]
          by_cases hm0 : m = 0
          · rw [if_pos hm0]
            exact ⟨_, rfl, reads0 rfl (by simp), f1, rfl, (by intro k hk; cases hk), f4⟩
          · rw [if_neg hm0]
            exact ⟨_, rfl, reads0 rfl (by simp), trivial⟩
  case pslice ds o n' c =>
    subst h1
    simp only [SlF] at hf
    have rdm : ∀ c', Reads h e (.pslice ds (o + m * e) (n' - m) c') (n' - m) (cs.drop (m * e)) := fun c' => by
      refine ⟨rfl, hlen, by simp, ?_⟩
      rcases Nat.eq_zero_or_pos (n' - m) with h0 | h0
      · exact .inl h0
      · right
        have h5 := h4.resolve_left (by omega)
        simp only at h5 ⊢
        rw [Nat.sub_mul]
        exact cut_drop h5 hme
    have base : evOp (.sliceSl e x (some lo) none none) t h = match sliceSlA e (.pslice ds o n' c) t (some lo) none none 0 with | some v => some (v, h) | none => none := by
      simp only [evOp, hxe, extA]
      generalize sliceSlA _ _ _ _ _ _ _ = q
      cases q <;> rfl
    rw [base]
    simp only [sliceSlA, capA, boundO, hl, boundA_int hm]
    by_cases hcm : c = some m
    · have := hf m hcm
      rw [if_pos hcm]
      refine ⟨_, rfl, ?_⟩
      have h0 : n' - m = 0 := by omega
      rw [hnil h0, h0]
      exact ⟨reads0 rfl (by simp), by intro k hk; omega⟩
    · rw [if_neg hcm]
      cases c with
      | some c =>
        refine ⟨_, rfl, rdm _, ?_⟩
        intro k hk; cases hk
        have := hf c rfl; omega
      | none =>
        simp only
        by_cases hmx : m < n'
        · rw [if_pos hmx]
          exact ⟨_, rfl, rdm _, (by intro k hk; cases hk)⟩
        · rw [if_neg hmx]
          have h0 : n' - m = 0 := by omega
          rw [hnil h0, h0]
          by_cases hm0 : m = 0
          · rw [if_pos hm0]
            exact ⟨_, rfl, reads0 rfl (by simp), (by intro k hk; cases hk)⟩
          · rw [if_neg hm0]
            exact ⟨_, rfl, reads0 rfl (by simp), trivial⟩

theorem Sl.hi {e n m : Nat} {v : AV} {cs : List AV} {x hi : Opd} {kk : IntKind} (hs : Sl h S e v n cs) (hx : x.ev t = v) (hl : hi.ev t = .int kk (m : Nat)) (hm : m ≤ n) :
    ∃ v', evOp (.sliceSl e x none (some hi) none) t h = some (v', h) ∧ Sl h S e v' m (cs.take (m * e)) := by
  obtain ⟨⟨h1, h2, h3, h4⟩, hf⟩ := hs
  have hme : m * e ≤ n * e := Nat.mul_le_mul_right _ hm
  have hlen : (cs.take (m * e)).length = m * e := by rw [List.length_take, h2]; omega
  have hnil : m = 0 → cs.take (m * e) = [] := fun h0 => by rw [h0, Nat.zero_mul, List.take_zero]
  subst hx
  generalize hxe : x.ev t = v at *
  cases v <;> simp only [lenA, Option.some.injEq, reduceCtorEq] at h1
  case str s => exact absurd rfl (h3 s)
  case nilslice =>
    subst h1
    obtain rfl : m = 0 := by omega
    refine ⟨.nilslice, ?_, ?_⟩
    · simp only [evOp, hxe, extA, sliceSlA, boundO, hl, boundA_int (Nat.le_refl 0)]
    · rw [hnil rfl]; exact ⟨reads0 rfl (by simp), trivial⟩
  case eslice =>
    subst h1
    obtain rfl : m = 0 := by omega
    refine ⟨.eslice, ?_, ?_⟩
    · simp only [evOp, hxe, extA, sliceSlA, boundO, hl, boundA_int (Nat.le_refl 0)]
    · rw [hnil rfl]; exact ⟨reads0 rfl (by simp), trivial⟩
  case slice b o n' c e' =>
    subst h1
    simp only [SlF] at hf
    obtain ⟨f1, rfl, f3, f4⟩ := hf
    obtain ⟨k, hk⟩ := ext_some (e := e') (n := n') (o := o) (c := c) (e' := e') f4
    have rdm : ∀ c', Reads h e' (.slice b o m c' e') m (cs.take (m * e')) := fun c' => by
      refine ⟨rfl, hlen, by simp, ?_⟩
      rcases Nat.eq_zero_or_pos m with h0 | h0
      · exact .inl h0
      · right
        have h5 := (h4.resolve_left (by omega)).2
        refine ⟨rfl, ?_⟩
        rw [readAt_cellsAt] at h5 ⊢
        obtain ⟨ds, hc⟩ := f4
        rw [hc] at h5 ⊢
        exact cut_take h5 hme
    have base : evOp (.sliceSl e' x none (some hi) none) t h = match sliceSlA e' (.slice b o n' c e') t none (some hi) none k with | some v => some (v, h) | none => none := by
      simp only [evOp, hxe, hk]
      generalize sliceSlA _ _ _ _ _ _ _ = q
      cases q <;> rfl
    have hb : boundA (.int kk (m : Int)) (c.getD (max n' k)) = some m := boundA_int (by
      cases c with
      | none => simp only [Option.getD_none]; omega
      | some c => have := f3 c rfl; simp only [Option.getD_some]; omega)
    rw [base]
    simp only [sliceSlA, ne_eq, not_true_eq_false, if_false, capA, boundO, hl, hb]
    by_cases hcm : c = some 0
    · have := f3 0 hcm
      rw [if_pos hcm]
      refine ⟨_, rfl, ?_⟩
      exact ⟨rdm _, f1, rfl, by intro k hk; omega, f4⟩
    · rw [if_neg hcm]
      cases c with
      | some c =>
        simp only [Nat.zero_mul, Nat.add_zero, Nat.sub_zero]
        refine ⟨_, rfl, rdm _, f1, rfl, ?_, f4⟩
        intro k hk; cases hk
        have := f3 c rfl; omega
      | none =>
        simp only [Nat.zero_mul, Nat.add_zero, Nat.sub_zero]
        by_cases hmx : 0 < max n' k
        · rw [if_pos hmx]
          exact ⟨_, rfl, rdm _, f1, rfl, (by intro k hk; cases hk), f4⟩
        · rw [if_neg hmx, if_pos trivial]
          exact ⟨_, rfl, rdm _, f1, rfl, (by intro k hk; cases hk), f4⟩
  case pslice ds o n' c =>
    subst h1
    simp only [SlF] at hf
    have rdm : ∀ c', Reads h e (.pslice ds o m c') m (cs.take (m * e)) := fun c' => by
      refine ⟨rfl, hlen, by simp, ?_⟩
      rcases Nat.eq_zero_or_pos m with h0 | h0
      · exact .inl h0
      · right
        have h5 := h4.resolve_left (by omega)
        simp only at h5 ⊢
        exact cut_take h5 hme
    have base : evOp (.sliceSl e x none (some hi) none) t h = match sliceSlA e (.pslice ds o n' c) t none (some hi) none 0 with | some v => some (v, h) | none => none := by
      simp only [evOp, hxe, extA]
      generalize sliceSlA _ _ _ _ _ _ _ = q
      cases q <;> rfl
    have hb : boundA (.int kk (m : Int)) (min (c.getD n') n') = some m := boundA_int (by
      cases c with
      | none => simp only [Option.getD_none]; omega
      | some c => have := hf c rfl; simp only [Option.getD_some]; omega)
    rw [base]
    simp only [sliceSlA, capA, boundO, hl, hb]
    by_cases hcm : c = some 0
    · have := hf 0 hcm
      rw [if_pos hcm]
      exact ⟨_, rfl, rdm _, by intro k hk; omega⟩
    · rw [if_neg hcm]
      cases c with
      | some c =>
        simp only [Nat.zero_mul, Nat.add_zero, Nat.sub_zero]
        refine ⟨_, rfl, rdm _, ?_⟩
        intro k hk; cases hk
        have := hf c rfl; omega
      | none =>
        simp only [Nat.zero_mul, Nat.add_zero, Nat.sub_zero]
        by_cases hmx : 0 < n'
        · rw [if_pos hmx]
          exact ⟨_, rfl, rdm _, (by intro k hk; cases hk)⟩
        · rw [if_neg hmx, if_pos trivial]
          exact ⟨_, rfl, rdm _, (by intro k hk; cases hk)⟩

/-- what is appended or copied of it -/
theorem Sl.source {e n : Nat} {v : AV} {cs : List AV} (hs : Sl h S e v n cs) : sourceA h e v n = some cs := by
  obtain ⟨⟨h1, h2, h3, h4⟩, hf⟩ := hs
  cases v <;> simp only [lenA, Option.some.injEq, reduceCtorEq] at h1
  case str s => exact absurd rfl (h3 s)
  case nilslice => subst h1; simp at h2; simp [sourceA, h2]
  case eslice => subst h1; simp at h2; simp [sourceA, h2]
  case slice b o n' c e' =>
    subst h1
    simp only [SlF] at hf
    obtain ⟨f1, rfl, f3, f4⟩ := hf
    simp only [sourceA, if_true]
    rcases Nat.eq_zero_or_pos n' with h0 | h0
    · subst h0; rw [if_pos rfl]; simp at h2; rw [h2]
    · rw [if_neg (by omega)]; exact (h4.resolve_left (by omega)).2
  case pslice ds o n' c =>
    subst h1
    simp only [sourceA]
    rcases Nat.eq_zero_or_pos n' with h0 | h0
    · subst h0; rw [if_pos rfl]; simp at h2; rw [h2]
    · rw [if_neg (by omega)]; exact h4.resolve_left (by omega)

theorem bytesOf_map (l : List UInt8) : bytesOf (l.map byteA) = some l := by
  induction l with
  | nil => rfl
  | cons b l ih => simp only [List.map_cons, byteA, bytesOf, ih]; simp

/-- its bytes -/
theorem Sl.b2s {n : Nat} {v : AV} {l : List UInt8} (hs : Sl h S 1 v n (l.map byteA)) : b2sA h v = some l := by
  have hsrc := hs.source
  obtain ⟨⟨h1, h2, h3, h4⟩, hf⟩ := hs
  rw [List.length_map, Nat.mul_one] at h2
  cases v <;> simp only [lenA, Option.some.injEq, reduceCtorEq] at h1
  case str s => exact absurd rfl (h3 s)
  case nilslice => subst h1; simp only [b2sA, List.eq_nil_of_length_eq_zero h2]
  case eslice => subst h1; simp only [b2sA, List.eq_nil_of_length_eq_zero h2]
  case slice b o n' c e' =>
    subst h1
    simp only [SlF] at hf
    obtain ⟨f1, rfl, f3, f4⟩ := hf
    simp only [b2sA, if_true]
    rcases Nat.eq_zero_or_pos n' with h0 | h0
    · subst h0; rw [if_pos rfl, List.eq_nil_of_length_eq_zero h2]
    · rw [if_neg (by omega)]
      have := (h4.resolve_left (by omega)).2
      rw [Nat.mul_one] at this
      rw [this]; exact bytesOf_map l
  case pslice ds o n' c =>
    subst h1
    simp only [b2sA]
    rcases Nat.eq_zero_or_pos n' with h0 | h0
    · subst h0; rw [if_pos rfl, List.eq_nil_of_length_eq_zero h2]
    · rw [if_neg (by omega)]
      have := h4.resolve_left (by omega)
      simp only [Nat.mul_one] at this
      rw [this]; exact bytesOf_map l

/-! A slice of one's own that grows -/
def Own (h : Heap) (S : Nat → Prop) (ty e : Nat) (v : AV) (n : Nat) (cs : List AV) : Prop :=
  (v = .nilslice ∧ n = 0 ∧ cs = []) ∨ ∃ b anc, v = .slice b 0 n none e ∧ 0 < n ∧ S b ∧ h.find b = some (.cells ty cs true 1 anc) ∧ cs.length = n * e ∧ ∀ p ∈ anc, p.2 ≤ cs.length

theorem Own.nil {ty e : Nat} : Own h S ty e .nilslice 0 [] := .inl ⟨rfl, rfl, rfl⟩

theorem Own.sl {ty e n : Nat} {v : AV} {cs : List AV} (ho : Own h S ty e v n cs) : Sl h S e v n cs := by
  rcases ho with ⟨rfl, rfl, rfl⟩ | ⟨b, anc, rfl, h0, hS, hf, hl, _⟩
  · exact ⟨reads0 rfl (by simp), trivial⟩
  · refine ⟨⟨rfl, hl, by simp, .inr ⟨rfl, ?_⟩⟩, hS, rfl, (by intro k hk; cases hk), cs, cellsAt_of hf⟩
    simp only [readAt, hf]
    rw [cut_eq (by omega), List.drop_zero, List.take_of_length_le (by omega)]

theorem Own.same {ty e n : Nat} {v : AV} {cs : List AV} (ho : Own h S ty e v n cs) (hs : Same S h h') : Own h' S ty e v n cs := by
  rcases ho with ⟨rfl, rfl, rfl⟩ | ⟨b, anc, rfl, h0, hS, hf, hl, ha⟩
  · exact .nil
  · exact .inr ⟨b, anc, rfl, h0, hS, hs.find hS hf, hl, ha⟩

theorem Own.sub {ty e n : Nat} {v : AV} {cs : List AV} (ho : Own h S ty e v n cs) (hS : ∀ j, S j → j < h.next → S' j) : Own h S' ty e v n cs := by
  rcases ho with ⟨rfl, rfl, rfl⟩ | ⟨b, anc, rfl, h0, hS1, hf, hl, ha⟩
  · exact .nil
  · exact .inr ⟨b, anc, rfl, h0, hS b hS1 (find_lt hf), hf, hl, ha⟩

theorem kill_none : ∀ {anc : List (Nat × Nat)} {h : Heap} {o : Nat}, (∀ p ∈ anc, p.2 ≤ o) → kill h o anc = h
  | [], _, _, _ => rfl
  | (a, n) :: r, h, o, hp => by
    simp only [kill]
    have := hp (a, n) (by simp)
    simp only at this
    rw [if_neg (by omega)]
    exact kill_none fun p hp' => hp p (by simp [hp'])

/-- an append that lays the elements anew; the old block's cells stand, and it is nobody's any more -/
theorem Own.append {ty e bytes n m : Nat} {zero cs new : List AV} {s x : Opd} {v u : AV} (ho : Own h S ty e v n cs) (hs : s.ev t = v) (hx : x.ev t = u) (hl : lenA u = some m) (hsrc : sourceA h e u m = some new)
    (hc : allCells new = true) (hlen : new.length = m * e) (hm : 0 < m) (he : 0 < e) (hroom : (n + m) * bytes ≤ roomA) (hS : S h.next) :
    ∃ v' h', evOp (.append .slice ty e bytes zero s x) t h = some (v', h') ∧ Own h' S ty e v' (n + m) (cs ++ new) ∧ (∀ S', Keep S' h h') ∧ (∀ S', (∀ j, S' j → ¬ S j) → Same S' h h') ∧ (∀ j, S j → j < h.next → (∀ b, v = .slice b 0 n none e → j ≠ b) → h'.get j = h.get j) := by
  have base : evOp (.append .slice ty e bytes zero s x) t h = appendA ty e bytes v new m h := by simp only [evOp, hs, hx, hl, hsrc]
  rw [base]
  unfold appendA
  rw [if_pos ⟨hc, hlen⟩]
  rcases ho with ⟨rfl, rfl, rfl⟩ | ⟨b, anc, rfl, h0, hSb, hf, hcl, ha⟩
  · simp only
    rw [if_neg (by omega), if_pos (by simpa using hroom)]
    refine ⟨.slice h.next 0 (0 + m) none e, h.push (.cells ty new true 1 []), by rw [alloc_push, Nat.zero_add], ?_, fun S' => Same.push.keep, fun S' _ => Same.push, fun j _ hj _ => (Same.push (S := fun _ => True)).get j trivial hj⟩
    refine .inr ⟨h.next, [], rfl, by omega, hS, ?_, by simpa using hlen, fun p hp => by cases hp⟩
    rw [List.nil_append]; exact find_push_new
  · have hbl : ¬ 0 + (n + m) * e ≤ cs.length := by
      rw [hcl, Nat.zero_add]
      have : n * e < (n + m) * e := (Nat.mul_lt_mul_right he).2 (by omega)
      omega
    simp only [ne_eq, not_true_eq_false, if_false]
    rw [if_neg (by omega)]
    simp only [find_get hf]
    rw [if_neg hbl, if_pos ⟨hroom, trivial, by omega, trivial⟩, cut_eq (by omega)]
    simp only [List.drop_zero]
    rw [List.take_of_length_le (by omega), if_pos hcl.symm, if_pos hcl.symm, kill_none (by rw [← hcl]; exact ha)]
    simp only [alloc_push]
    have hs1 : ∀ S', (∀ j, S' j → j ≠ b) → Same S' h ((h.set b (.cells ty cs false 1 anc)).push (.cells ty (cs ++ new) true 1 ((b, n * e) :: anc))) := fun S' hS' => (Same.set hf hS').trans Same.push
    refine ⟨.slice h.next 0 (n + m) none e, _, rfl, ?_, fun S' => ?_, fun S' hS' => hs1 S' (fun j hj e => hS' j hj (e ▸ hSb)), fun j _ hj hne => (hs1 (fun j => j ≠ b) (fun j hj => hj)).get j (hne b rfl) hj⟩
    · refine .inr ⟨h.next, (b, n * e) :: anc, rfl, by omega, hS, find_push_new (h := h.set b (.cells ty cs false 1 anc)), by rw [List.length_append, hcl, hlen, Nat.add_mul], ?_⟩
      intro p hp
      rw [List.length_append]
      rcases List.mem_cons.1 hp with e | hp
      · subst e; simp only; omega
      · have := ha p hp; omega
    · refine ⟨by simp only [push_next, set_next]; omega, fun j ds _ hds => ?_⟩
      by_cases e : j = b
      · subst e
        rw [cellsAt_of hf] at hds; cases hds
        exact cellsAt_of (find_push_old (find_set_same hf))
      · obtain ⟨_, _, _, _, hg⟩ := cellsAt_some hds
        exact cellsAt_of (find_push_old (by rw [find_set_ne hf (fun x => e x.symm)]; exact hg))

/-- a part that is all of it -/
theorem fill_one {zs : List AV} {v : AV} {e : Nat} (hz : zs.length = e) (hv : v.cells.length = e) (hc : allCells v.cells = true) : fillA zs [(0, e, v)] = some v.cells := by
  simp only [fillA]
  rw [if_pos ⟨hv, hc⟩, over_eq (by omega)]
  simp only [List.take_zero, List.nil_append, Nat.zero_add, hv, ← hz, List.drop_length, List.append_nil]

/-- one element as a slice of its own -/
theorem ev_build1 {ty e : Nat} {zs : List AV} {x : Opd} {v : AV} (hx : x.ev t = v) (hz : zs.length = e) (hv : v.cells.length = e) (hc : allCells v.cells = true) :
    evOp (.buildSlice ty zs e 1 [(0, x)]) t h = some (.slice h.next 0 1 (some 1) e, h.push (.cells ty v.cells true 1 [])) := by
  simp only [evOp, evPartsS, hx, Nat.zero_mul, fill_one hz hv hc, newCells, alloc_push]

/-- the element of a list in which it lies -/
theorem flat_cut_mem {α : Type} {f : α → List AV} {e : Nat} (hf : ∀ x, (f x).length = e) {l : List α} {i : Nat} (hi : i < l.length) : cut (l.flatMap f) (i * e) e = some (f l[i]) := by
  have := flat_cut hf hi (o := 0) (m := e) (by omega)
  rw [Nat.add_zero] at this
  rw [this, cut_eq (by rw [hf]; omega), List.drop_zero, List.take_of_length_le (by rw [hf]; omega)]

theorem flat_drop {α : Type} {f : α → List AV} {e : Nat} (hf : ∀ x, (f x).length = e) : ∀ (l : List α) (m : Nat), (l.flatMap f).drop (m * e) = (l.drop m).flatMap f
  | l, 0 => by simp
  | [], m + 1 => by simp
  | x :: l, m + 1 => by
    rw [List.flatMap_cons, Nat.add_mul, Nat.one_mul, Nat.add_comm, ← List.drop_drop, List.drop_left' (hf x), flat_drop hf l m, List.drop_succ_cons]

theorem flat_take {α : Type} {f : α → List AV} {e : Nat} (hf : ∀ x, (f x).length = e) : ∀ (l : List α) (m : Nat), (l.flatMap f).take (m * e) = (l.take m).flatMap f
  | l, 0 => by simp
  | [], m + 1 => by simp
  | x :: l, m + 1 => by
    rw [List.flatMap_cons, Nat.add_mul, Nat.one_mul, Nat.add_comm, List.take_add, List.take_left' (hf x), List.drop_left' (hf x), flat_take hf l m, List.take_succ_cons, List.flatMap_cons]
end Go.AM

/- GUARDS, taken away. -/
namespace Go.AM
variable {prog : Nat → Option AFun} {k : List KF} {Q : AX → St → Prop} {t : Tm} {d : List ADef} {h : Heap}

theorem evOper_g_yes {rc : Rec} {dst : Option Nat} {g : Option (Nat × Bool)} {op : AOp} {s : St} (hw : wantedA s.t g = some true) : evOper rc ⟨dst, g, op⟩ s = evOper rc ⟨dst, none, op⟩ s := by
  have h0 : wantedA s.t none = some true := rfl
  simp only [evOper, hw, h0]

theorem evOper_g_no {rc : Rec} {dst : Option Nat} {g : Option (Nat × Bool)} {op : AOp} {s : St} (hw : wantedA s.t g = some false) : evOper rc ⟨dst, g, op⟩ s = some (.nrm, { s with t := putD s.t dst undefA }) := by
  simp only [evOper, hw]

theorem wanted_yes {j : Nat} {b : Bool} (hw : getT t j = .bool b) : wantedA t (some (j, b)) = some true := by simp [wantedA, hw]
theorem wanted_no {j : Nat} {b c : Bool} (hw : getT t j = .bool c) (hb : c ≠ b) : wantedA t (some (j, b)) = some false := by simp [wantedA, hw, hb]
theorem wanted_un {j : Nat} {b : Bool} (hw : getT t j = undefA) : wantedA t (some (j, b)) = some false := by simp [wantedA, hw, undefA]

theorem Ev_g_yes {dst : Option Nat} {op : AOp} {os : List AOper} {j : Nat} {b : Bool} (hw : getT t j = .bool b) (hn : Ev prog (.reg (⟨dst, none, op⟩ :: os)) k ⟨t, d, h⟩ Q) : Ev prog (.reg (⟨dst, some (j, b), op⟩ :: os)) k ⟨t, d, h⟩ Q := by
  obtain ⟨n, r, h1, h2⟩ := hn
  refine ⟨n, r, ?_, h2⟩
  simp only [evCode, evOpers] at h1 ⊢
  rw [evOper_g_yes (wanted_yes hw)]; exact h1

theorem Ev_g_skip {dst : Option Nat} {op : AOp} {os : List AOper} {g : Option (Nat × Bool)} (hw : wantedA t g = some false) (hn : Ev prog (.reg os) k ⟨putD t dst undefA, d, h⟩ Q) : Ev prog (.reg (⟨dst, g, op⟩ :: os)) k ⟨t, d, h⟩ Q := by
  obtain ⟨n, r, h1, h2⟩ := hn
  refine ⟨n, r, ?_, h2⟩
  simp only [evCode, evOpers] at h1 ⊢
  rw [evOper_g_no hw]; exact h1

theorem Ev_g_no {dst : Option Nat} {op : AOp} {os : List AOper} {j : Nat} {b c : Bool} (hw : getT t j = .bool c) (hb : c ≠ b) (hn : Ev prog (.reg os) k ⟨putD t dst undefA, d, h⟩ Q) : Ev prog (.reg (⟨dst, some (j, b), op⟩ :: os)) k ⟨t, d, h⟩ Q := Ev_g_skip (wanted_no hw hb) hn
theorem Ev_g_un {dst : Option Nat} {op : AOp} {os : List AOper} {j : Nat} {b : Bool} (hw : getT t j = undefA) (hn : Ev prog (.reg os) k ⟨putD t dst undefA, d, h⟩ Q) : Ev prog (.reg (⟨dst, some (j, b), op⟩ :: os)) k ⟨t, d, h⟩ Q := Ev_g_skip (wanted_un hw) hn

theorem EvDn_g_yes {dst : Option Nat} {op : AOp} {rs : List AOper} {os : List (AOper × List AOper)} {j : Nat} {b : Bool} (hw : getT t j = .bool b) (hn : EvDn prog ((⟨dst, none, op⟩, rs) :: os) k ⟨t, d, h⟩ Q) : EvDn prog ((⟨dst, some (j, b), op⟩, rs) :: os) k ⟨t, d, h⟩ Q := by
  obtain ⟨n, s1, r, h1, h2, h3⟩ := hn
  refine ⟨n, s1, r, ?_, h2, h3⟩
  simp only [evDraw] at h1 ⊢
  rw [evOper_g_yes (wanted_yes hw)]; exact h1

theorem EvDn_g_skip {dst : Option Nat} {op : AOp} {os : List (AOper × List AOper)} {g : Option (Nat × Bool)} (hw : wantedA t g = some false) (hn : EvDn prog os k ⟨putD t dst undefA, d, h⟩ Q) : EvDn prog ((⟨dst, g, op⟩, []) :: os) k ⟨t, d, h⟩ Q := by
  obtain ⟨n, s1, r, h1, h2, h3⟩ := hn
  refine ⟨n, s1, r, ?_, h2, h3⟩
  simp only [evDraw] at h1 ⊢
  rw [evOper_g_no hw]
  simp only [checks, cond_true]; exact h1

theorem EvDn_g_no {dst : Option Nat} {op : AOp} {os : List (AOper × List AOper)} {j : Nat} {b c : Bool} (hw : getT t j = .bool c) (hb : c ≠ b) (hn : EvDn prog os k ⟨putD t dst undefA, d, h⟩ Q) : EvDn prog ((⟨dst, some (j, b), op⟩, []) :: os) k ⟨t, d, h⟩ Q := EvDn_g_skip (wanted_no hw hb) hn
theorem EvDn_g_un {dst : Option Nat} {op : AOp} {os : List (AOper × List AOper)} {j : Nat} {b : Bool} (hw : getT t j = undefA) (hn : EvDn prog os k ⟨putD t dst undefA, d, h⟩ Q) : EvDn prog ((⟨dst, some (j, b), op⟩, []) :: os) k ⟨t, d, h⟩ Q := EvDn_g_skip (wanted_un hw) hn
/-- the temporaries that are still looked at -/
theorem Ev_abs {c : ACode} (P : Tm → Prop) (hP : P t) (hn : ∀ t', P t' → Ev prog c k ⟨t', d, h⟩ Q) : Ev prog c k ⟨t, d, h⟩ Q := hn t hP
theorem EvDn_abs {os : List (AOper × List AOper)} (P : Tm → Prop) (hP : P t) (hn : ∀ t', P t' → EvDn prog os k ⟨t', d, h⟩ Q) : EvDn prog os k ⟨t, d, h⟩ Q := hn t hP

/-! Cuts of slices, whatever the temporaries are -/
theorem sliceSlA_lo {e k : Nat} {v : AV} {t t' : Tm} {lo lo' : Opd} (hl : ∀ m, boundA (lo.ev t) m = boundA (lo'.ev t') m) : sliceSlA e v t (some lo) none none k = sliceSlA e v t' (some lo') none none k := by
  cases v <;> simp only [sliceSlA, boundO, hl, capA]
theorem sliceSlA_hi {e k : Nat} {v : AV} {t t' : Tm} {hi hi' : Opd} (hl : ∀ m, boundA (hi.ev t) m = boundA (hi'.ev t') m) : sliceSlA e v t none (some hi) none k = sliceSlA e v t' none (some hi') none k := by
  cases v <;> simp only [sliceSlA, boundO, hl, capA]

theorem Sl.loF {S : Nat → Prop} {e n m : Nat} {v : AV} {cs : List AV} (hs : Sl h S e v n cs) (hm : m ≤ n) :
    ∃ v', Sl h S e v' (n - m) (cs.drop (m * e)) ∧ ∀ (t : Tm) (x lo : Opd) (kk : IntKind), x.ev t = v → lo.ev t = .int kk (m : Nat) → evOp (.sliceSl e x (some lo) none none) t h = some (v', h) := by
  obtain ⟨v', e1, e2⟩ := hs.lo (t := .nil) (x := .k v) (lo := .k (.int .i64 (m : Nat))) (kk := .i64) rfl rfl hm
  refine ⟨v', e2, fun t x lo kk hx hl => ?_⟩
  have h0 : (Opd.k v).ev .nil = v := rfl
  simp only [evOp, h0] at e1
  simp only [evOp, hx]
  rw [← e1]
  cases extA h v e with
  | none => rfl
  | some k =>
    simp only
    rw [sliceSlA_lo (t' := .nil) (lo' := .k (.int .i64 (m : Nat)))]
    intro m'
    rw [hl]
    rfl

theorem Sl.hiF {S : Nat → Prop} {e n m : Nat} {v : AV} {cs : List AV} (hs : Sl h S e v n cs) (hm : m ≤ n) :
    ∃ v', Sl h S e v' m (cs.take (m * e)) ∧ ∀ (t : Tm) (x hi : Opd) (kk : IntKind), x.ev t = v → hi.ev t = .int kk (m : Nat) → evOp (.sliceSl e x none (some hi) none) t h = some (v', h) := by
  obtain ⟨v', e1, e2⟩ := hs.hi (t := .nil) (x := .k v) (hi := .k (.int .i64 (m : Nat))) (kk := .i64) rfl rfl hm
  refine ⟨v', e2, fun t x hi kk hx hl => ?_⟩
  have h0 : (Opd.k v).ev .nil = v := rfl
  simp only [evOp, h0] at e1
  simp only [evOp, hx]
  rw [← e1]
  cases extA h v e with
  | none => rfl
  | some k =>
    simp only
    rw [sliceSlA_hi (t' := .nil) (hi' := .k (.int .i64 (m : Nat)))]
    intro m'
    rw [hl]
    rfl

theorem isCell_cells {v : AV} (hc : v.isCell = true) : v.cells = [v] := by cases v <;> first | rfl | cases hc
theorem cell_of_rd {e n : Nat} {v : AV} {cs : List AV} (hr : Reads h e v n cs) : v.isCell = true := by
  have := hr.1
  cases v <;> simp only [lenA, reduceCtorEq] at this <;> rfl

/-- what is new may turn -/
theorem Same.trans' {h h' h2 : Heap} {S : Nat → Prop} (h1 : Same S h h') (h2' : Same (fun j => j < h.next) h' h2) : Same S h h2 :=
  ⟨Nat.le_trans h1.next h2'.next, fun j hS hj => (h2'.get j hj (Nat.lt_of_lt_of_le hj h1.next)).trans (h1.get j hS hj)⟩
theorem Same.sub' {h h' h2 : Heap} {S : Nat → Prop} (h1 : Same (fun j => j < h.next) h h') (h2' : Same S h' h2) : Same S h h2 :=
  ⟨Nat.le_trans h1.next h2'.next, fun j hS hj => (h2'.get j hS (Nat.lt_of_lt_of_le hj h1.next)).trans (h1.get j hj hj)⟩

theorem Own.appendF {S : Nat → Prop} {ty e bytes n m : Nat} {zero cs new : List AV} {v u : AV} (ho : Own h S ty e v n cs) (hl : lenA u = some m) (hsrc : sourceA h e u m = some new)
    (hc : allCells new = true) (hlen : new.length = m * e) (hm : 0 < m) (he : 0 < e) (hroom : (n + m) * bytes ≤ roomA) (hS : S h.next) :
    ∃ v' h', (∀ (t : Tm) (s x : Opd), s.ev t = v → x.ev t = u → evOp (.append .slice ty e bytes zero s x) t h = some (v', h')) ∧ Own h' S ty e v' (n + m) (cs ++ new) ∧ (∀ S', Keep S' h h') ∧ (∀ S', (∀ j, S' j → ¬ S j) → Same S' h h') := by
  obtain ⟨v', h', e1, e2, e3, e4, _⟩ := Own.append (t := .nil) (s := .k v) (x := .k u) (zero := zero) ho rfl rfl hl hsrc hc hlen hm he hroom hS
  refine ⟨v', h', fun t s x hs hx => ?_, e2, e3, e4⟩
  rw [← e1]
  have h1 : (Opd.k v).ev .nil = v := rfl
  have h2 : (Opd.k u).ev .nil = u := rfl
  simp only [evOp, hs, hx, h1, h2]
end Go.AM

/- STEPS AS DEFAULT ARGUMENTS. -/
namespace Go.AM
set_option linter.unusedVariables false
set_option linter.unusedSimpArgs false
theorem an {A B : Prop} (a : A) (b : B) : A ∧ B := ⟨a, b⟩
/-- what is looked up among temporaries, by facts -/
theorem look {L G : Prop} (l : L) (h : L → G := by
    intro l
    first | (with_reducible rfl) | (simp (decide := true) only [Bool.not_true, Bool.not_false, Opd.ev, putD, getT_setT, getT_nil, argsT, ofL, Nat.zero_add, Nat.reduceAdd, Nat.reduceEqDiff, reduceIte, if_true, if_false, l]; done) | (simp (decide := true) only [Bool.not_true, Bool.not_false, Opd.ev, putD, getT_setT, getT_nil, argsT, ofL, Nat.zero_add, Nat.reduceAdd, Nat.reduceEqDiff, reduceIte, if_true, if_false, l]; (with_reducible rfl))) : G := h l
theorem cal {L G : Prop} (l : L) (h : L → G := by
    intro l
    first | (simp (decide := true) only [calleeA, evalAll, List.nil_append, List.append_nil, List.cons_append, Bool.not_true, Bool.not_false, Opd.ev, putD, getT_setT, getT_nil, argsT, ofL, Nat.zero_add, Nat.reduceAdd, Nat.reduceEqDiff, reduceIte, if_true, if_false, l]; done) | (simp (decide := true) only [calleeA, evalAll, List.nil_append, List.append_nil, List.cons_append, Bool.not_true, Bool.not_false, Opd.ev, putD, getT_setT, getT_nil, argsT, ofL, Nat.zero_add, Nat.reduceAdd, Nat.reduceEqDiff, reduceIte, if_true, if_false, l]; (with_reducible rfl)) | (simp (decide := true) only [calleeA, evalAll, List.nil_append, List.append_nil, List.cons_append, Bool.not_true, Bool.not_false, Opd.ev, putD, getT_setT, getT_nil, argsT, ofL, Nat.zero_add, Nat.reduceAdd, Nat.reduceEqDiff, reduceIte, if_true, if_false, l]; rfl) | rfl) : G := h l
theorem ret {L G : Prop} (l : L) (h : L → G := by
    intro l
    simp (decide := true) only [resultsA, resultA, Bool.not_true, Bool.not_false, Opd.ev, putD, getT_setT, getT_nil, argsT, ofL, Nat.zero_add, Nat.reduceAdd, Nat.reduceEqDiff, reduceIte, if_true, if_false, l]; rfl) : G := h l
/-- an operation's value, where no closer is told -/
theorem dfl {L G : Prop} (l : L) (h : L → G := by
    intro l
    first
      | ((with_reducible refine ev_len ?_ ?_) <;> first | (with_reducible assumption) | exact look l)
      | ((with_reducible refine ev_load ?_ ?_) <;> first | (with_reducible assumption) | exact look l)
      | ((with_reducible refine ev_field ?_ ?_) <;> first | (with_reducible assumption) | exact look l)
      | ((with_reducible refine ev_nilCheck ?_ ?_) <;> first | (with_reducible assumption) | exact look l)
      | (simp (decide := true) only [evOp, binA, unA, eqA, primEq, convA, resultV, lenA, goI, evalAll, calleeA, Option.map_some, List.getElem?_cons_zero, List.getElem?_cons_succ, Bool.not_true, Bool.not_false, Opd.ev, putD, getT_setT, getT_nil, argsT, ofL, Nat.zero_add, Nat.reduceAdd, Nat.reduceEqDiff, reduceIte, if_true, if_false, l]; (with_reducible rfl))
      | (simp (decide := true) only [evOp, binA, unA, eqA, primEq, convA, resultV, lenA, goI, evalAll, calleeA, Option.map_some, List.getElem?_cons_zero, List.getElem?_cons_succ, Bool.not_true, Bool.not_false, Opd.ev, putD, getT_setT, getT_nil, argsT, ofL, Nat.zero_add, Nat.reduceAdd, Nat.reduceEqDiff, reduceIte, if_true, if_false, l]; done)) : G := h l
/-- steps that ask for nothing but looking up -/
theorem adm {L G R : Prop} (l : L) (r : R) (h : L → R → G := by
    intro l hR
    (first
      | (with_reducible refine Ev_seq.2 ?_)
      | (with_reducible refine Ev_reg_nil.2 ?_)
      | (with_reducible refine EvX_seq_nrm.2 ?_)
      | (with_reducible refine Ev_skip.2 ?_)
      | (with_reducible refine Ev_ret.2 ?_)
      | (with_reducible refine EvX_seq_ret.2 ?_)
      | (with_reducible refine EvX_block_nrm.2 ?_)
      | (with_reducible refine EvX_block_ret.2 ?_)
      | (with_reducible refine Ev_block.2 ?_)
      | (with_reducible refine Ev_scope.2 ?_)
      | (with_reducible refine Ev_exit.2 ?_)
      | (with_reducible refine EvX_seq_exit.2 ?_)
      | (with_reducible refine EvDn_nil.2 ?_)
      | (with_reducible refine Ev_draw ?_)
      | ((with_reducible refine EvX_block_exit.2 ?_); first | rw [if_pos rfl] | rw [if_neg (by decide)])
      | ((with_reducible refine EvX_nil.2 ?_); dsimp only)
      | ((with_reducible apply Ev_g_yes); (case hw => exact look l))
      | ((with_reducible apply Ev_g_no); (case hw => exact look l); (case hb => decide))
      | ((with_reducible apply Ev_g_un); (case hw => exact look l))
      | ((with_reducible apply EvDn_g_yes); (case hw => exact look l))
      | ((with_reducible apply EvDn_g_no); (case hw => exact look l); (case hb => decide))
      | ((with_reducible apply EvDn_g_un); (case hw => exact look l))
      | ((with_reducible apply Ev_defer); (case hc => rfl))
      | ((with_reducible apply Ev_cond_true); (case hc => exact look l))
      | ((with_reducible apply Ev_cond_false); (case hc => exact look l)))
    (repeat (first
      | (with_reducible refine Ev_seq.2 ?_)
      | (with_reducible refine Ev_reg_nil.2 ?_)
      | (with_reducible refine EvX_seq_nrm.2 ?_)
      | (with_reducible refine Ev_skip.2 ?_)
      | (with_reducible refine Ev_ret.2 ?_)
      | (with_reducible refine EvX_seq_ret.2 ?_)
      | (with_reducible refine EvX_block_nrm.2 ?_)
      | (with_reducible refine EvX_block_ret.2 ?_)
      | (with_reducible refine Ev_block.2 ?_)
      | (with_reducible refine Ev_scope.2 ?_)
      | (with_reducible refine Ev_exit.2 ?_)
      | (with_reducible refine EvX_seq_exit.2 ?_)
      | (with_reducible refine EvDn_nil.2 ?_)
      | (with_reducible refine Ev_draw ?_)
      | ((with_reducible refine EvX_block_exit.2 ?_); first | rw [if_pos rfl] | rw [if_neg (by decide)])
      | ((with_reducible refine EvX_nil.2 ?_); dsimp only)
      | ((with_reducible apply Ev_g_yes); (case hw => exact look l))
      | ((with_reducible apply Ev_g_no); (case hw => exact look l); (case hb => decide))
      | ((with_reducible apply Ev_g_un); (case hw => exact look l))
      | ((with_reducible apply EvDn_g_yes); (case hw => exact look l))
      | ((with_reducible apply EvDn_g_no); (case hw => exact look l); (case hb => decide))
      | ((with_reducible apply EvDn_g_un); (case hw => exact look l))
      | ((with_reducible apply Ev_defer); (case hc => rfl))
      | ((with_reducible apply Ev_cond_true); (case hc => exact look l))
      | ((with_reducible apply Ev_cond_false); (case hc => exact look l))))
    exact hR) : G := h l r
end Go.AM

/- FUNCTIONS THAT THE KERNEL COMPILES WHEN IT RUNS THEM: no table is printed of these. -/
namespace Go.AM

/-! short words of printed tables -/
namespace S
def v (d s : Nat) : AOper := ⟨some d, none, .move (.t s)⟩
def o (d : Nat) (a : AOp) : AOper := ⟨some d, none, a⟩
def p (a : AOp) : AOper := ⟨none, none, a⟩
def t (n : Nat) : Opd := .t n
def k (n : Int) : Opd := .k (.int .i64 n)
def I (n : Int) : AV := .int .i64 n
def f (d n s : Nat) : AOper := ⟨some d, none, .fieldAddr n (.t s)⟩
def l (d n s : Nat) : AOper := ⟨some d, none, .load false n (.t s)⟩
def m (d n s : Nat) : AOper := ⟨some d, none, .load true n (.t s)⟩
def w (n a b : Nat) : AOper := ⟨none, none, .store n (.t a) (.t b)⟩
def c (d s : Nat) : AOper := ⟨some d, none, .nilCheck (.t s)⟩
def i (d : Nat) (n : Int) : AOper := ⟨some d, none, .move (.k (.int .i64 n))⟩
def g (d n : Nat) (l : List Nat) : AOper := ⟨some d, none, .callv (.k (.func n [] [])) (l.map .t)⟩
def z (n : Nat) (l : List AV) : List AV := List.replicate n (.int .i64 0) ++ l
def y (a b : ACode) : ACode := .seq a b
def r (l : List AOper) : ACode := .reg l
end S

def funD (T : Tb) (f : Nat) (fn : Func) : Option AFun :=
  match fn.body with
  | some _ => bif fn.name == "runtime.NumGoroutine" then none else funA T f fn
  | none => bif fn.name == "runtime.NumGoroutine" then none else match Extern.findNext fn with | none => funA T f fn | some _ => none

inductive FT where
  | nil
  | node (k : Nat) (fn : Func) (l r : FT)

def FT.get : FT → Nat → Option Func
  | .nil, _ => none
  | .node k a l r, f => bif Nat.blt f k then l.get f else bif Nat.blt k f then r.get f else some a

def FT.OK (P : Program) : FT → Prop
  | .nil => True
  | .node k a l r => l.OK P ∧ P.funcs[k]? = some a ∧ r.OK P

theorem FT.ok {P : Program} : ∀ {t : FT}, t.OK P → ∀ f fn, t.get f = some fn → P.funcs[f]? = some fn
  | .nil, _, f, fa, h => by simp only [FT.get, reduceCtorEq] at h
  | .node k a l r, ⟨h1, h2, h3⟩, f, fa, h => by
    simp only [FT.get] at h
    cases hlt : Nat.blt f k with
    | true => rw [hlt] at h; exact FT.ok h1 f fa h
    | false =>
      rw [hlt] at h
      cases hgt : Nat.blt k f with
      | true => rw [hgt] at h; exact FT.ok h3 f fa h
      | false =>
        rw [hgt] at h
        simp only [cond_false, Option.some.injEq] at h
        subst h
        have e : f = k := by
          have h4 : ¬ f < k := fun h => by rw [Nat.blt_eq.mpr h] at hlt; cases hlt
          have h5 : ¬ k < f := fun h => by rw [Nat.blt_eq.mpr h] at hgt; cases hgt
          omega
        subst e; exact h2

theorem okD {T : Tb} {f : Nat} {fn : Func} {a : AFun} (hf : T.P.funcs[f]? = some fn) (h : funD T f fn = some a) : FunOK T f a := by
  unfold funD at h
  split at h
  · rename_i c hc
    cases hn : fn.name == "runtime.NumGoroutine" with
    | true => rw [hn] at h; cases h
    | false =>
      rw [hn] at h
      exact .inr ⟨fn, hf, hn, h, fun hb => by rw [hc] at hb; cases hb⟩
  · cases hn : fn.name == "runtime.NumGoroutine" with
    | true => rw [hn] at h; cases h
    | false =>
      rw [hn] at h
      simp only [cond_false] at h
      split at h
      · rename_i he
        exact .inr ⟨fn, hf, hn, h, fun _ => he⟩
      · cases h

def both (T : Tb) (t : PT) (u : FT) : Nat → Option AFun := fun f =>
  match t.get f with
  | some a => some a
  | none => match u.get f with | some fn => funD T f fn | none => none

theorem both_ok {T : Tb} {t : PT} {u : FT} (ht : t.OK T) (hu : u.OK T.P) : ProgOK T (both T t u) := by
  intro f fa h
  unfold both at h
  split at h
  · rename_i a ha
    cases h
    exact PT.ok ht f _ ha
  · split at h
    · rename_i fn hfn
      exact okD (FT.ok hu f fn hfn) h
    · cases h
end Go.AM
