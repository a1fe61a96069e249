/- PLAIN LAW, 1: the bytes of lists of frames, and how they are read. -/
import Derived.Lib.ItoaNum
import Derived.Lib.ItoaLen
import Derived.Lib.AtoiAllCases
import Derived.Test.YtlpnnoojgbhfaaaGreatDoorMc
set_option linter.all false
namespace Go.AM

structure SV where
  K : Int
  N : Int
  M : Int
  VK : Int
  VN : Int
  T : List UInt8
  deriving DecidableEq

structure SF where
  code : Int
  pc : Int
  self : SV
  holder : SV
  vars : List SV
  stack : List SV
  up : Int
  act : Int
  deriving DecidableEq

def isI64 (n : Int) : Prop := -9223372036854775808 ≤ n ∧ n ≤ 9223372036854775807

def SV.wf (v : SV) : Prop := isI64 v.K ∧ isI64 v.N ∧ isI64 v.M ∧ isI64 v.VK ∧ isI64 v.VN ∧ v.T.length ≤ 9223372036854775807
def SF.wf (f : SF) : Prop := isI64 f.code ∧ isI64 f.pc ∧ f.self.wf ∧ f.holder.wf ∧ (∀ v ∈ f.vars, v.wf) ∧ (∀ v ∈ f.stack, v.wf) ∧ f.vars.length ≤ 9223372036854775807 ∧ f.stack.length ≤ 9223372036854775807 ∧ isI64 f.up ∧ isI64 f.act

def numB (n : Int) : List UInt8 := Lib.itoa n ++ [59]
def valB (v : SV) : List UInt8 := numB v.K ++ (numB v.N ++ (numB v.M ++ (numB v.VK ++ (numB v.VN ++ (numB (v.T.length : Nat) ++ v.T)))))
def valsB (l : List SV) : List UInt8 := numB (l.length : Nat) ++ l.flatMap valB
def frB (f : SF) : List UInt8 := numB f.code ++ (numB f.pc ++ (valB f.self ++ (valB f.holder ++ (valsB f.vars ++ (valsB f.stack ++ (numB f.up ++ numB f.act))))))

def sharedN : List SF → List SF → Nat
  | a :: x, b :: y => if a = b then sharedN x y + 1 else 0
  | _, _ => 0

def listB (last fs : List SF) : List UInt8 := numB (fs.length : Nat) ++ (numB (sharedN last fs : Nat) ++ (fs.drop (sharedN last fs)).flatMap frB)

def encGo : List SF → List UInt8 → List (List SF) → Option (List UInt8)
  | _, acc, [] => some acc
  | last, acc, fs :: r => if 20 < fs.length then none else if 1048576 < (acc ++ listB last fs).length then none else encGo fs (acc ++ listB last fs) r

def enc (l : List (List SF)) : Option (List UInt8) := encGo [] (numB (l.length : Nat)) l

/-! Reading -/
def splitB : List UInt8 → Option (List UInt8 × List UInt8)
  | [] => none
  | b :: l => if b = 59 then some ([], l) else match splitB l with | some (x, y) => some (b :: x, y) | none => none

abbrev Rdr (α : Type) := List UInt8 → Option (α × List UInt8)

def rdNum : Rdr Int := fun b =>
  match splitB b with
  | some (x, y) => if x.length ≤ 20 then (match Lib.atoiAll x with | .ok n => some (n, y) | _ => none) else none
  | none => none

def rdLen : Rdr Nat := fun b =>
  match rdNum b with
  | some (n, y) => if 0 ≤ n ∧ n ≤ (y.length : Int) then some (n.toNat, y) else none
  | none => none

def rdVal : Rdr SV := fun b =>
  (rdNum b).bind fun p1 => (rdNum p1.2).bind fun p2 => (rdNum p2.2).bind fun p3 => (rdNum p3.2).bind fun p4 => (rdNum p4.2).bind fun p5 => (rdLen p5.2).bind fun p6 =>
    some (⟨p1.1, p2.1, p3.1, p4.1, p5.1, p6.2.take p6.1⟩, p6.2.drop p6.1)

def rdN {α : Type} (f : Rdr α) : Nat → Rdr (List α)
  | 0 => fun b => some ([], b)
  | n + 1 => fun b => (f b).bind fun p => (rdN f n p.2).bind fun q => some (p.1 :: q.1, q.2)

def rdVals : Rdr (List SV) := fun b => (rdLen b).bind fun p => rdN rdVal p.1 p.2

def rdFr : Rdr SF := fun b =>
  (rdNum b).bind fun p1 => (rdNum p1.2).bind fun p2 => (rdVal p2.2).bind fun p3 => (rdVal p3.2).bind fun p4 => (rdVals p4.2).bind fun p5 => (rdVals p5.2).bind fun p6 => (rdNum p6.2).bind fun p7 => (rdNum p7.2).bind fun p8 =>
    some (⟨p1.1, p2.1, p3.1, p4.1, p5.1, p6.1, p7.1, p8.1⟩, p8.2)

def headOK (m k : Int) (last : Nat) (rest : Nat) : Prop := 0 ≤ k ∧ k ≤ m ∧ k ≤ (last : Int) ∧ m - k ≤ (rest : Int)
instance (m k : Int) (last rest : Nat) : Decidable (headOK m k last rest) := by unfold headOK; infer_instance

def rdList (last : List SF) : Rdr (List SF) := fun b =>
  (rdNum b).bind fun p1 => (rdNum p1.2).bind fun p2 =>
    if headOK p1.1 p2.1 last.length p2.2.length then (rdN rdFr (p1.1 - p2.1).toNat p2.2).bind fun q => some (last.take p2.1.toNat ++ q.1, q.2) else none

def rdListsGo : Nat → List SF → Rdr (List (List SF))
  | 0, _ => fun b => some ([], b)
  | n + 1, last => fun b => (rdList last b).bind fun p => (rdListsGo n p.1 p.2).bind fun q => some (p.1 :: q.1, q.2)

def rdLists : Rdr (List (List SF)) := fun b => (rdLen b).bind fun p => rdListsGo p.1 [] p.2

def dec (b : List UInt8) : Option (List (List SF)) :=
  match rdLists b with
  | some (m, _) => if enc m = some b then some m else none
  | none => none

/-! A number is read back -/
theorem digit_toNat {d : Nat} (h : d < 10) : (UInt8.ofNat (48 + d)).toNat = 48 + d := by
  rw [UInt8.toNat_ofNat']; omega

theorem decDigits_ne : ∀ u : Nat, Lib.decDigits u ≠ [] := fun u => by
  rw [Lib.decDigits]; split <;> simp

theorem decDigits_range : ∀ u : Nat, ∀ c ∈ Lib.decDigits u, 48 ≤ c.toNat ∧ c.toNat ≤ 57 := by
  intro u
  induction u using Nat.strongRecOn with
  | ind u ih =>
    intro c hc
    rw [Lib.decDigits] at hc
    split at hc
    · rename_i h
      simp only [List.mem_singleton] at hc
      rw [hc, digit_toNat h]; omega
    · rename_i h
      rcases List.mem_append.1 hc with h1 | h1
      · exact ih (u / 10) (by omega) c h1
      · simp only [List.mem_singleton] at h1
        rw [h1, digit_toNat (by omega)]; omega

theorem parseUint10_append : ∀ (a b : List UInt8) (n m : Nat), Lib.parseUint10 n a = .ok m → Lib.parseUint10 n (a ++ b) = Lib.parseUint10 m b
  | [], b, n, m, h => by
    simp only [Lib.parseUint10] at h
    cases h; rfl
  | c :: a, b, n, m, h => by
    simp only [List.cons_append, Lib.parseUint10] at h ⊢
    split at h
    · rename_i h1
      rw [if_pos h1]
      split at h
      · cases h
      · rename_i h2
        rw [if_neg h2]
        split at h
        · cases h
        · rename_i h3
          rw [if_neg h3]; exact parseUint10_append a b _ m h
    · cases h

theorem parse_digit {n d : Nat} (hd : d < 10) (hn : n * 10 + d < 18446744073709551616) : Lib.parseUint10 n [UInt8.ofNat (48 + d)] = .ok (n * 10 + d) := by
  simp only [Lib.parseUint10, digit_toNat hd]
  rw [if_pos (by omega), if_neg (by omega), if_neg (by omega)]
  congr 1; omega

theorem parse_digits : ∀ u : Nat, u < 18446744073709551616 → Lib.parseUint10 0 (Lib.decDigits u) = .ok u := by
  intro u
  induction u using Nat.strongRecOn with
  | ind u ih =>
    intro hu
    rw [Lib.decDigits]
    split
    · rename_i h
      rw [parse_digit h (by omega)]; congr 1; omega
    · rename_i h
      rw [parseUint10_append _ _ _ _ (ih (u / 10) (by omega) (by omega)), parse_digit (by omega) (by omega)]
      congr 1; omega

theorem parseMag_digits {u : Nat} (hu : u < 18446744073709551616) : Lib.parseMag (Lib.decDigits u) = .ok u := by
  unfold Lib.parseMag
  rw [if_neg (decDigits_ne u), parse_digits u hu]

theorem atoi_itoa {n : Int} (h : isI64 n) : Lib.atoiAll (Lib.itoa n) = .ok n := by
  obtain ⟨h0, h1⟩ := h
  unfold Lib.itoa
  split
  · rename_i hn
    rw [Lib.atoiAll_minus, parseMag_digits (by omega)]
    simp only [Lib.signed]
    rw [if_neg (by omega)]
    congr 1; omega
  · rename_i hn
    have hr := decDigits_range n.toNat
    have hm := parseMag_digits (u := n.toNat) (by omega)
    cases hd : Lib.decDigits n.toNat with
    | nil => exact absurd hd (decDigits_ne _)
    | cons c r =>
      rw [hd] at hr hm
      have := hr c (by simp)
      rw [Lib.atoiAll_plain c r (by omega) (by omega), hm]
      simp only [Lib.signless]
      rw [if_neg (by omega)]
      congr 1; omega

theorem decLen : ∀ (d u : Nat), 0 < d → u < 10 ^ d → (Lib.decDigits u).length ≤ d
  | 0, _, h, _ => by omega
  | d + 1, u, _, hu => by
    rw [Lib.decDigits]
    split
    · simp
    · rename_i h
      rcases Nat.eq_zero_or_pos d with rfl | hd
      · omega
      · have := decLen d (u / 10) hd (by rw [Nat.pow_succ] at hu; omega)
        simp only [List.length_append, List.length_cons, List.length_nil]; omega

theorem itoa_len {n : Int} (h : isI64 n) : (Lib.itoa n).length ≤ 20 := by
  obtain ⟨h0, h1⟩ := h
  unfold Lib.itoa
  split
  · have := decLen 19 n.natAbs (by omega) (by omega)
    simp only [List.length_cons]; omega
  · have := decLen 19 n.toNat (by omega) (by omega)
    omega

theorem itoa_no59 (n : Int) : ∀ c ∈ Lib.itoa n, c ≠ 59 := by
  intro c hc e
  subst e
  unfold Lib.itoa at hc
  split at hc
  · rcases List.mem_cons.1 hc with h | h
    · revert h; decide
    · have := decDigits_range _ _ h
      revert this; decide
  · have := decDigits_range _ _ hc
    revert this; decide

theorem splitB_mk : ∀ {x r : List UInt8}, (∀ c ∈ x, c ≠ 59) → splitB (x ++ 59 :: r) = some (x, r)
  | [], r, _ => by simp [splitB]
  | c :: x, r, h => by
    have h1 : c ≠ 59 := h c (by simp)
    simp only [List.cons_append, splitB, if_neg h1, splitB_mk (x := x) (r := r) (fun d hd => h d (by simp [hd]))]

theorem splitB_some : ∀ {b x y : List UInt8}, splitB b = some (x, y) → b = x ++ 59 :: y ∧ ∀ c ∈ x, c ≠ 59
  | [], _, _, h => by simp [splitB] at h
  | c :: b, x, y, h => by
    simp only [splitB] at h
    split at h
    · rename_i hc
      cases h
      exact ⟨by simp [hc], by simp⟩
    · rename_i hc
      split at h
      · rename_i x' y' he
        cases h
        obtain ⟨h1, h2⟩ := splitB_some he
        exact ⟨by rw [h1]; rfl, fun d hd => by
          rcases List.mem_cons.1 hd with e | e
          · rw [e]; exact hc
          · exact h2 d e⟩
      · cases h

theorem rdNum_mk {n : Int} (h : isI64 n) (r : List UInt8) : rdNum (numB n ++ r) = some (n, r) := by
  unfold rdNum numB
  rw [List.append_assoc, List.singleton_append, splitB_mk (itoa_no59 n)]
  simp only [atoi_itoa h]
  rw [if_pos (itoa_len h)]

theorem rdLen_mk {n : Nat} {r : List UInt8} (h : n ≤ 9223372036854775807) (hr : n ≤ r.length) : rdLen (numB (n : Nat) ++ r) = some (n, r) := by
  unfold rdLen
  rw [rdNum_mk (by unfold isI64; omega)]
  simp only
  rw [if_pos (by omega)]; simp

theorem numB_pos (n : Int) : 1 ≤ (numB n).length := by simp [numB]

theorem rdVal_mk {v : SV} (h : v.wf) (r : List UInt8) : rdVal (valB v ++ r) = some (v, r) := by
  obtain ⟨h1, h2, h3, h4, h5, h6⟩ := h
  unfold rdVal valB
  simp only [List.append_assoc, rdNum_mk h1, rdNum_mk h2, rdNum_mk h3, rdNum_mk h4, rdNum_mk h5, Option.bind_some, rdLen_mk (r := v.T ++ r) h6 (by simp), List.take_left', List.drop_left']

theorem rdN_mk {α : Type} {f : Rdr α} {g : α → List UInt8} : ∀ {l : List α}, (∀ x ∈ l, ∀ r, f (g x ++ r) = some (x, r)) → ∀ r, rdN f l.length (l.flatMap g ++ r) = some (l, r)
  | [], _, r => by simp [rdN]
  | x :: l, h, r => by
    simp only [List.length_cons, rdN, List.flatMap_cons, List.append_assoc, h x (by simp), Option.bind_some, rdN_mk (l := l) (fun y hy => h y (by simp [hy])) r]

theorem flat_ge {α : Type} {g : α → List UInt8} (hg : ∀ x, 1 ≤ (g x).length) : ∀ l : List α, l.length ≤ (l.flatMap g).length
  | [] => by simp
  | x :: l => by
    have := flat_ge hg l
    have := hg x
    simp only [List.length_cons, List.flatMap_cons, List.length_append]; omega

theorem valB_pos (v : SV) : 1 ≤ (valB v).length := by
  have := numB_pos v.K
  unfold valB; rw [List.length_append]; omega
theorem frB_pos (f : SF) : 1 ≤ (frB f).length := by
  have := numB_pos f.code
  unfold frB; rw [List.length_append]; omega

theorem rdVals_mk {l : List SV} (h : ∀ v ∈ l, v.wf) (hl : l.length ≤ 9223372036854775807) (r : List UInt8) : rdVals (valsB l ++ r) = some (l, r) := by
  unfold rdVals valsB
  rw [List.append_assoc, rdLen_mk hl (by have := flat_ge valB_pos l; rw [List.length_append]; omega), Option.bind_some]
  exact rdN_mk (fun x hx r => rdVal_mk (h x hx) r) r

theorem rdFr_mk {f : SF} (h : f.wf) (r : List UInt8) : rdFr (frB f ++ r) = some (f, r) := by
  obtain ⟨h1, h2, h3, h4, h5, h6, h7, h8, h9, h10⟩ := h
  unfold rdFr frB
  simp only [List.append_assoc, rdNum_mk h1, rdNum_mk h2, rdVal_mk h3, rdVal_mk h4, rdVals_mk h5 h7, rdVals_mk h6 h8, rdNum_mk h9, rdNum_mk h10, Option.bind_some]

theorem sharedN_le : ∀ (a b : List SF), sharedN a b ≤ a.length ∧ sharedN a b ≤ b.length ∧ a.take (sharedN a b) = b.take (sharedN a b)
  | [], b => by simp [sharedN]
  | a :: x, [] => by simp [sharedN]
  | a :: x, b :: y => by
    obtain ⟨h1, h2, h3⟩ := sharedN_le x y
    simp only [sharedN]
    split
    · rename_i e
      subst e
      simp only [List.length_cons, List.take_succ_cons, h3]
      exact ⟨by omega, by omega, trivial⟩
    · simp

theorem sharedN_self : ∀ l : List SF, sharedN l l = l.length
  | [] => rfl
  | a :: l => by simp [sharedN, sharedN_self l]

theorem rdList_mk {last fs : List SF} (h : ∀ f ∈ fs, f.wf) (hl : fs.length ≤ 20) (r : List UInt8) : rdList last (listB last fs ++ r) = some (fs, r) := by
  obtain ⟨h1, h2, h3⟩ := sharedN_le last fs
  unfold rdList listB
  rw [List.append_assoc, List.append_assoc, rdNum_mk (by unfold isI64; omega), Option.bind_some]
  simp only
  rw [rdNum_mk (by unfold isI64; omega), Option.bind_some]
  simp only
  have hg := flat_ge frB_pos (fs.drop (sharedN last fs))
  rw [List.length_drop] at hg
  rw [if_pos (by unfold headOK; rw [List.length_append]; omega)]
  have hn : ((fs.length : Int) - (sharedN last fs : Int)).toNat = (fs.drop (sharedN last fs)).length := by rw [List.length_drop]; omega
  rw [hn, rdN_mk (fun x hx r => rdFr_mk (h x (List.mem_of_mem_drop hx)) r) r, Option.bind_some]
  simp only [Int.toNat_natCast, h3, List.take_append_drop]

theorem listB_pos (last fs : List SF) : 1 ≤ (listB last fs).length := by
  have := numB_pos (fs.length : Nat)
  unfold listB; rw [List.length_append]; omega

theorem rdListsGo_mk : ∀ {l : List (List SF)} {last : List SF} {acc x : List UInt8}, (∀ fs ∈ l, ∀ f ∈ fs, f.wf) → encGo last acc l = some x →
    ∃ y, x = acc ++ y ∧ l.length ≤ y.length ∧ ∀ r, rdListsGo l.length last (y ++ r) = some (l, r)
  | [], last, acc, x, _, h => by
    simp only [encGo, Option.some.injEq] at h
    exact ⟨[], by simp [h], by simp, fun r => rfl⟩
  | fs :: l, last, acc, x, hw, h => by
    simp only [encGo] at h
    split at h
    · cases h
    · rename_i h1
      split at h
      · cases h
      · obtain ⟨y, e1, e2, e3⟩ := rdListsGo_mk (fun g hg => hw g (by simp [hg])) h
        refine ⟨listB last fs ++ y, by rw [e1, List.append_assoc], ?_, fun r => ?_⟩
        · have := listB_pos last fs
          simp only [List.length_cons, List.length_append]; omega
        · simp only [List.length_cons, rdListsGo, List.append_assoc, rdList_mk (hw fs (by simp)) (by omega), Option.bind_some, e3]

/-- WHAT IS ENCODED IS DECODED. -/
theorem dec_enc {l : List (List SF)} {x : List UInt8} (hw : ∀ fs ∈ l, ∀ f ∈ fs, f.wf) (hl : l.length ≤ 9223372036854775807) (h : enc l = some x) : dec x = some l := by
  have h0 := h
  unfold enc at h
  obtain ⟨y, e1, e2, e3⟩ := rdListsGo_mk hw h
  have e4 := e3 []
  rw [List.append_nil] at e4
  unfold dec rdLists
  rw [e1, rdLen_mk hl e2, Option.bind_some, e4]
  simp only
  rw [if_pos (by rw [h0, e1])]

/-- what is decoded is encoded byte for byte -/
theorem enc_dec {b : List UInt8} {m : List (List SF)} (h : dec b = some m) : enc m = some b := by
  unfold dec at h
  split at h
  · split at h
    · cases h; assumption
    · cases h
  · cases h

/-! Twice -/
def dup : List (List SF) → List (List SF)
  | [] => []
  | fs :: l => fs :: fs :: dup l

theorem dup_length : ∀ l, (dup l).length = 2 * l.length
  | [] => rfl
  | _ :: l => by simp only [dup, List.length_cons, dup_length l]; omega

theorem numB_small {n : Nat} (h : n ≤ 20) : (numB (n : Nat)).length ≤ 3 := by
  unfold numB Lib.itoa
  rw [if_neg (by omega)]
  have := decLen 2 (n : Int).toNat (by omega) (by omega)
  simp only [List.length_append, List.length_cons, List.length_nil]; omega

theorem listB_again {fs : List SF} (h : fs.length ≤ 20) : (listB fs fs).length ≤ 6 := by
  have := numB_small h
  unfold listB
  simp only [sharedN_self, List.drop_length, List.flatMap_nil, List.append_nil, List.length_append]; omega

theorem encGo_pre : ∀ {l : List (List SF)} {last : List SF} {acc x : List UInt8}, encGo last acc l = some x → acc.length ≤ x.length
  | [], _, acc, x, h => by simp only [encGo, Option.some.injEq] at h; rw [h]; exact Nat.le_refl _
  | fs :: l, last, acc, x, h => by
    simp only [encGo] at h
    split at h
    · cases h
    · split at h
      · cases h
      · have := encGo_pre h
        rw [List.length_append] at this; omega

theorem twice_go : ∀ {l : List (List SF)} {last : List SF} {acc acc2 x : List UInt8} {d : Nat}, encGo last acc l = some x → acc2.length ≤ acc.length + d →
    match encGo last acc2 (dup l) with
    | some y => y.length ≤ x.length + 6 * l.length + d
    | none => 1048576 < x.length + 6 * l.length + d
  | [], last, acc, acc2, x, d, h, ha => by
    simp only [encGo, Option.some.injEq] at h
    subst h
    simp only [dup, encGo, List.length_nil]; omega
  | fs :: l, last, acc, acc2, x, d, h, ha => by
    have hx := encGo_pre h
    simp only [encGo] at h
    split at h
    · cases h
    · rename_i h1
      split at h
      · cases h
      · rename_i h2
        have hp := encGo_pre h
        have h6 := listB_again (fs := fs) (by omega)
        simp only [dup, encGo, if_neg h1]
        rw [List.length_append] at hp
        by_cases h3 : 1048576 < (acc2 ++ listB last fs).length
        · rw [if_pos h3]
          simp only [List.length_append] at h3
          simp only [List.length_cons]; omega
        · rw [if_neg h3]
          by_cases h4 : 1048576 < (acc2 ++ listB last fs ++ listB fs fs).length
          · rw [if_pos h4]
            simp only [List.length_append] at h4
            simp only [List.length_cons]; omega
          · rw [if_neg h4]
            have := twice_go (acc2 := acc2 ++ listB last fs ++ listB fs fs) (d := d + 6) h (by simp only [List.length_append]; omega)
            revert this
            cases encGo fs (acc2 ++ listB last fs ++ listB fs fs) (dup l) with
            | some y => simp only [List.length_cons]; omega
            | none => simp only [List.length_cons]; omega

theorem decLen_double : ∀ u : Nat, (Lib.decDigits (2 * u)).length ≤ (Lib.decDigits u).length + 1 := by
  intro u
  induction u using Nat.strongRecOn with
  | ind u ih =>
    rw [Lib.decDigits.eq_def u]
    split
    · rename_i h
      have := decLen 2 (2 * u) (by omega) (by omega)
      simpa using this
    · rename_i h
      rw [Lib.decDigits.eq_def (2 * u), dif_neg (by omega)]
      have h1 := ih (u / 10) (by omega)
      have h2 : 2 * u / 10 = 2 * (u / 10) ∨ 2 * u / 10 = 2 * (u / 10) + 1 := by omega
      simp only [List.length_append, List.length_cons, List.length_nil]
      rcases h2 with h2 | h2
      · rw [h2]; omega
      · rw [h2]
        have : ∀ v : Nat, (Lib.decDigits (2 * v + 1)).length = (Lib.decDigits (2 * v)).length := fun v => by
          rw [Lib.decDigits.eq_def (2 * v + 1), Lib.decDigits.eq_def (2 * v)]
          have e : (2 * v + 1) / 10 = 2 * v / 10 := by omega
          rw [e]
          by_cases h : 2 * v < 10
          · rw [dif_pos h, dif_pos (by omega)]; rfl
          · rw [dif_neg h, dif_neg (by omega)]; simp
        rw [this]; omega

theorem twice_enc {l : List (List SF)} {x : List UInt8} (h : enc l = some x) :
    match enc (dup l) with
    | some y => y.length ≤ x.length + 6 * l.length + 1
    | none => 1048576 < x.length + 6 * l.length + 1 := by
  unfold enc at h ⊢
  refine twice_go h ?_
  rw [dup_length]
  unfold numB Lib.itoa
  rw [if_neg (by omega), if_neg (by omega)]
  have := decLen_double l.length
  simp only [Int.toNat_natCast, List.length_append, List.length_cons, List.length_nil]; omega

/-! How long encodings are -/
theorem numB_le {n : Int} (h : isI64 n) : (numB n).length ≤ 21 := by
  have := itoa_len h
  simp only [numB, List.length_append, List.length_cons, List.length_nil]; omega

theorem numB_nat {n : Nat} (h : n ≤ 9999999) : (numB (n : Nat)).length ≤ 8 := by
  unfold numB Lib.itoa
  rw [if_neg (by omega)]
  have := decLen 7 (n : Int).toNat (by omega) (by omega)
  simp only [List.length_append, List.length_cons, List.length_nil]; omega

end Go.AM

/- PLAIN LAW, 2: how long encodings are. -/
namespace Go.AM

def SV.sz (v : SV) : Nat := 6 + v.T.length
def SF.sz (f : SF) : Nat := 6 + f.self.sz + f.holder.sz + (f.vars.map SV.sz).sum + (f.stack.map SV.sz).sum

theorem valB_len {v : SV} (h : v.wf) (hT : v.T.length ≤ 9999999) : (valB v).length ≤ 113 + v.T.length := by
  obtain ⟨h1, h2, h3, h4, h5, _⟩ := h
  have := numB_le h1
  have := numB_le h2
  have := numB_le h3
  have := numB_le h4
  have := numB_le h5
  have := numB_nat hT
  simp only [valB, List.length_append]; omega

theorem vals_le {l : List SV} (hw : ∀ v ∈ l, v.wf) (hs : (l.map SV.sz).sum ≤ 9999999) : (l.flatMap valB).length ≤ 19 * (l.map SV.sz).sum := by
  induction l with
  | nil => simp
  | cons v l ih =>
    simp only [List.map_cons, List.sum_cons] at hs ⊢
    have h1 := valB_len (hw v (by simp)) (by unfold SV.sz at hs; omega)
    have h2 := ih (fun x hx => hw x (by simp [hx])) (by omega)
    simp only [List.flatMap_cons, List.length_append]
    unfold SV.sz at *; omega

theorem len_le_sz (l : List SV) : l.length ≤ (l.map SV.sz).sum := by
  induction l with
  | nil => simp
  | cons v l ih => simp only [List.length_cons, List.map_cons, List.sum_cons]; unfold SV.sz at *; omega

theorem frB_le {f : SF} (hw : f.wf) (hs : f.sz ≤ 9999999) : (frB f).length ≤ 19 * f.sz := by
  obtain ⟨h1, h2, h3, h4, h5, h6, h7, h8, h9, h10⟩ := hw
  have a1 := numB_le h1
  have a2 := numB_le h2
  have a3 := numB_le h9
  have a4 := numB_le h10
  have l1 := len_le_sz f.vars
  have l2 := len_le_sz f.stack
  unfold SF.sz at hs ⊢
  have e1 : f.self.sz = 6 + f.self.T.length := rfl
  have e2 : f.holder.sz = 6 + f.holder.T.length := rfl
  have a5 := valB_len h3 (by omega)
  have a6 := valB_len h4 (by omega)
  have a7 := vals_le h5 (by omega)
  have a8 := vals_le h6 (by omega)
  have a9 := numB_nat (n := f.vars.length) (by omega)
  have a10 := numB_nat (n := f.stack.length) (by omega)
  simp only [frB, valsB, List.length_append]
  omega

theorem frs_le {l : List SF} (hw : ∀ f ∈ l, f.wf) (hs : (l.map SF.sz).sum ≤ 9999999) : (l.flatMap frB).length ≤ 19 * (l.map SF.sz).sum := by
  induction l with
  | nil => simp
  | cons f l ih =>
    simp only [List.map_cons, List.sum_cons] at hs ⊢
    have h1 := frB_le (hw f (by simp)) (by omega)
    have h2 := ih (fun x hx => hw x (by simp [hx])) (by omega)
    simp only [List.flatMap_cons, List.length_append]; omega

/-! Of what is read -/
theorem rdNum_len {b y : List UInt8} {n : Int} (h : rdNum b = some (n, y)) : isI64 n ∧ y.length + 2 ≤ b.length := by
  unfold rdNum at h
  split at h <;> try (cases h; done)
  rename_i x y' hs
  split at h <;> try (cases h; done)
  split at h <;> try (cases h; done)
  rename_i m hm
  cases h
  obtain ⟨e, _⟩ := splitB_some hs
  refine ⟨Lib.atoiAll_bounds hm, ?_⟩
  cases x with
  | nil => simp [Lib.atoiAll] at hm
  | cons c x => rw [e]; simp only [List.length_append, List.length_cons]; omega

theorem rdLen_len {b y : List UInt8} {n : Nat} (h : rdLen b = some (n, y)) : y.length + 2 ≤ b.length ∧ n ≤ y.length := by
  unfold rdLen at h
  split at h <;> try (cases h; done)
  rename_i m y' hm
  split at h <;> try (cases h; done)
  cases h
  exact ⟨(rdNum_len hm).2, by omega⟩

theorem obind {α β : Type} {x : Option α} {f : α → Option β} {r : β} (h : x.bind f = some r) : ∃ a, x = some a ∧ f a = some r := by
  cases x with
  | none => cases h
  | some a => exact ⟨a, rfl, h⟩

theorem rdVal_len {b r : List UInt8} {v : SV} (h : rdVal b = some (v, r)) (hb : b.length ≤ 9999999) : v.wf ∧ r.length ≤ b.length ∧ (valB v).length + 11 * r.length ≤ 11 * b.length := by
  unfold rdVal at h
  obtain ⟨⟨n1, y1⟩, e1, h⟩ := obind h
  obtain ⟨⟨n2, y2⟩, e2, h⟩ := obind h
  obtain ⟨⟨n3, y3⟩, e3, h⟩ := obind h
  obtain ⟨⟨n4, y4⟩, e4, h⟩ := obind h
  obtain ⟨⟨n5, y5⟩, e5, h⟩ := obind h
  obtain ⟨⟨n6, y6⟩, e6, h⟩ := obind h
  simp only [Option.some.injEq, Prod.mk.injEq] at h
  obtain ⟨rfl, rfl⟩ := h
  obtain ⟨w1, l1⟩ := rdNum_len e1
  obtain ⟨w2, l2⟩ := rdNum_len e2
  obtain ⟨w3, l3⟩ := rdNum_len e3
  obtain ⟨w4, l4⟩ := rdNum_len e4
  obtain ⟨w5, l5⟩ := rdNum_len e5
  obtain ⟨l6, l7⟩ := rdLen_len e6
  simp only at l2 l3 l4 l5 l6 l7
  have hw : SV.wf ⟨n1, n2, n3, n4, n5, y6.take n6⟩ := ⟨w1, w2, w3, w4, w5, by simp only [List.length_take]; omega⟩
  have hl := valB_len hw (by simp only [List.length_take]; omega)
  simp only [List.length_take] at hl
  refine ⟨hw, by simp only [List.length_drop]; omega, ?_⟩
  simp only [List.length_drop]; omega

theorem rdN_len {α : Type} {f : Rdr α} {g : α → List UInt8} {W : α → Prop} {N : Nat} (hf : ∀ b x r, b.length ≤ N → f b = some (x, r) → W x ∧ r.length ≤ b.length ∧ (g x).length + 11 * r.length ≤ 11 * b.length) :
    ∀ {n : Nat} {b : List UInt8} {l : List α} {r : List UInt8}, b.length ≤ N → rdN f n b = some (l, r) → (∀ x ∈ l, W x) ∧ r.length ≤ b.length ∧ (l.flatMap g).length + 11 * r.length ≤ 11 * b.length ∧ l.length = n
  | 0, b, l, r, _, h => by
    simp only [rdN, Option.some.injEq, Prod.mk.injEq] at h
    obtain ⟨rfl, rfl⟩ := h
    simp
  | n + 1, b, l, r, hb, h => by
    simp only [rdN] at h
    obtain ⟨⟨x, y⟩, e1, h⟩ := obind h
    obtain ⟨⟨l', r'⟩, e2, h⟩ := obind h
    simp only [Option.some.injEq, Prod.mk.injEq] at h
    obtain ⟨rfl, rfl⟩ := h
    obtain ⟨a1, a2, a3⟩ := hf _ _ _ hb e1
    obtain ⟨b1, b2, b3, b4⟩ := rdN_len hf (by simp only; omega) e2
    simp only at b2 b3
    refine ⟨fun z hz => ?_, by omega, by simp only [List.flatMap_cons, List.length_append]; omega, by simp [b4]⟩
    rcases List.mem_cons.1 hz with e | e
    · rw [e]; exact a1
    · exact b1 z e

theorem rdVals_len {b r : List UInt8} {l : List SV} (h : rdVals b = some (l, r)) (hb : b.length ≤ 9999999) : (∀ v ∈ l, v.wf) ∧ r.length ≤ b.length ∧ (valsB l).length + 11 * r.length ≤ 11 * b.length ∧ l.length ≤ 9999999 := by
  unfold rdVals at h
  obtain ⟨⟨n, y⟩, e1, h⟩ := obind h
  obtain ⟨l1, l2⟩ := rdLen_len e1
  obtain ⟨b1, b2, b3, b4⟩ := rdN_len (g := valB) (W := SV.wf) (N := 9999999) (fun b x r hb hx => by have := rdVal_len hx hb; exact this) (by simp only; omega) h
  simp only at b2 b3 b4 l1 l2
  have := numB_nat (n := l.length) (by omega)
  refine ⟨b1, by omega, ?_, by omega⟩
  simp only [valsB, List.length_append]; omega

theorem rdFr_len {b r : List UInt8} {f : SF} (hb : b.length ≤ 9999999) (h : rdFr b = some (f, r)) : f.wf ∧ r.length ≤ b.length ∧ (frB f).length + 11 * r.length ≤ 11 * b.length := by
  unfold rdFr at h
  obtain ⟨⟨n1, y1⟩, e1, h⟩ := obind h
  obtain ⟨⟨n2, y2⟩, e2, h⟩ := obind h
  obtain ⟨⟨n3, y3⟩, e3, h⟩ := obind h
  obtain ⟨⟨n4, y4⟩, e4, h⟩ := obind h
  obtain ⟨⟨n5, y5⟩, e5, h⟩ := obind h
  obtain ⟨⟨n6, y6⟩, e6, h⟩ := obind h
  obtain ⟨⟨n7, y7⟩, e7, h⟩ := obind h
  obtain ⟨⟨n8, y8⟩, e8, h⟩ := obind h
  simp only [Option.some.injEq, Prod.mk.injEq] at h
  obtain ⟨rfl, rfl⟩ := h
  obtain ⟨w1, l1⟩ := rdNum_len e1
  obtain ⟨w2, l2⟩ := rdNum_len e2
  simp only at l1 l2
  obtain ⟨w3, l3, k3⟩ := rdVal_len e3 (by simp only; omega)
  simp only at l3 k3
  obtain ⟨w4, l4, k4⟩ := rdVal_len e4 (by simp only; omega)
  simp only at l4 k4
  obtain ⟨w5, l5, k5, m5⟩ := rdVals_len e5 (by simp only; omega)
  simp only at l5 k5
  obtain ⟨w6, l6, k6, m6⟩ := rdVals_len e6 (by simp only; omega)
  simp only at l6 k6
  obtain ⟨w7, l7⟩ := rdNum_len e7
  obtain ⟨w8, l8⟩ := rdNum_len e8
  simp only at l7 l8
  refine ⟨⟨w1, w2, w3, w4, w5, w6, by simp only; omega, by simp only; omega, w7, w8⟩, by omega, ?_⟩
  have := numB_le w1
  have := numB_le w2
  have := numB_le w7
  have := numB_le w8
  simp only [frB, List.length_append]; omega

theorem rdList_len {last fs : List SF} {b r : List UInt8} (hb : b.length ≤ 9999999) (hl : ∀ f ∈ last, f.wf) (h : rdList last b = some (fs, r)) :
    (∀ f ∈ fs, f.wf) ∧ r.length ≤ b.length ∧ (fs.flatMap frB).length + 11 * r.length ≤ (last.flatMap frB).length + 11 * b.length := by
  unfold rdList at h
  obtain ⟨⟨n1, y1⟩, e1, h⟩ := obind h
  obtain ⟨⟨n2, y2⟩, e2, h⟩ := obind h
  simp only at h
  split at h <;> try (cases h; done)
  obtain ⟨⟨l, r'⟩, e3, h⟩ := obind h
  simp only [Option.some.injEq, Prod.mk.injEq] at h
  obtain ⟨rfl, rfl⟩ := h
  obtain ⟨w1, l1⟩ := rdNum_len e1
  obtain ⟨w2, l2⟩ := rdNum_len e2
  simp only at l1 l2
  obtain ⟨b1, b2, b3, b4⟩ := rdN_len (g := frB) (W := SF.wf) (N := 9999999) (fun b x r hb hx => rdFr_len hb hx) (by omega) e3
  have ht : ((last.take n2.toNat).flatMap frB).length ≤ (last.flatMap frB).length := by
    conv => rhs; rw [← List.take_append_drop n2.toNat last]
    rw [List.flatMap_append, List.length_append]; omega
  refine ⟨fun f hf => ?_, by omega, by rw [List.flatMap_append, List.length_append]; omega⟩
  rcases List.mem_append.1 hf with h1 | h1
  · exact hl f (List.mem_of_mem_take h1)
  · exact b1 f h1

theorem rdListsGo_len : ∀ {n : Nat} {last : List SF} {b : List UInt8} {l : List (List SF)} {r : List UInt8} {D : Nat}, b.length ≤ 9999999 → (∀ f ∈ last, f.wf) → (last.flatMap frB).length + 11 * b.length ≤ D → rdListsGo n last b = some (l, r) →
    (∀ fs ∈ l, (∀ f ∈ fs, f.wf) ∧ (fs.flatMap frB).length ≤ D) ∧ l.length = n
  | 0, last, b, l, r, D, _, _, _, h => by
    simp only [rdListsGo, Option.some.injEq, Prod.mk.injEq] at h
    obtain ⟨rfl, rfl⟩ := h
    exact ⟨fun fs hf => (by cases hf), rfl⟩
  | n + 1, last, b, l, r, D, hb, hl, hD, h => by
    simp only [rdListsGo] at h
    obtain ⟨⟨fs, y⟩, e1, h⟩ := obind h
    obtain ⟨⟨l', r'⟩, e2, h⟩ := obind h
    simp only [Option.some.injEq, Prod.mk.injEq] at h
    obtain ⟨rfl, rfl⟩ := h
    obtain ⟨a1, a2, a3⟩ := rdList_len hb hl e1
    simp only at e2
    obtain ⟨c1, c2⟩ := rdListsGo_len (D := D) (by omega) a1 (by omega) e2
    refine ⟨fun gs hg => ?_, by simp [c2]⟩
    rcases List.mem_cons.1 hg with e | e
    · rw [e]; exact ⟨a1, by omega⟩
    · exact c1 gs e

/-- what is read can be encoded without a greater buffer -/
theorem rdLists_len {b r : List UInt8} {l : List (List SF)} (hb : b.length ≤ 1048576) (h : rdLists b = some (l, r)) : (∀ fs ∈ l, (∀ f ∈ fs, f.wf) ∧ (fs.flatMap frB).length ≤ 25165824) ∧ l.length ≤ 1048576 := by
  unfold rdLists at h
  obtain ⟨⟨n, y⟩, e1, h⟩ := obind h
  obtain ⟨l1, l2⟩ := rdLen_len e1
  simp only at l1 l2 h
  obtain ⟨c1, c2⟩ := rdListsGo_len (D := 25165824) (by omega) (fun f hf => by cases hf) (by simp; omega) h
  exact ⟨c1, by omega⟩
end Go.AM

/- LISTS OF FRAMES IN THE ABSTRACT MACHINE's MEMORY. -/
namespace Go.AM
variable {h h' : Heap} {S S' : Nat → Prop}

def svC (v : SV) : List AV := [.int .i64 v.K, .int .i64 v.N, .int .i64 v.M, .int .i64 v.VK, .int .i64 v.VN, .str v.T]
theorem svC_len (v : SV) : (svC v).length = 6 := rfl

theorem svEq (x y : SV) : flatEq [.int, .int, .int, .int, .int, .str] (svC x) (svC y) = some (decide (x = y)) := by
  have hxy : (x = y) ↔ (x.K = y.K ∧ x.N = y.N ∧ x.M = y.M ∧ x.VK = y.VK ∧ x.VN = y.VN ∧ x.T = y.T) := by cases x; cases y; simp
  have hb : beqB x.T y.T = decide (x.T = y.T) := by rw [beqB_eq]; rw [Bool.eq_iff_iff]; simp
  simp only [svC, flatEq, primEq, if_true, hb]
  congr 1
  rw [Bool.eq_iff_iff]
  simp [hxy]

/-- a list of values -/
def RdVals (h : Heap) (S : Nat → Prop) (v : AV) (l : List SV) : Prop := Sl h S 6 v l.length (l.flatMap svC)

theorem RdVals.keep {v : AV} {l : List SV} (hr : RdVals h S v l) (hk : Keep S h h') : RdVals h' S v l := Sl.keep hr hk
theorem RdVals.sub {v : AV} {l : List SV} (hr : RdVals h S v l) (hS : ∀ j, S j → j < h.next → S' j) : RdVals h S' v l := Sl.sub hr hS

/-- a frame and where its lists are -/
abbrev FP := SF × AV × AV
def frC (p : FP) : List AV := [.int .i64 p.1.code, .int .i64 p.1.pc] ++ svC p.1.self ++ svC p.1.holder ++ [p.2.1, p.2.2] ++ [.int .i64 p.1.up, .int .i64 p.1.act]
theorem frC_len (p : FP) : (frC p).length = 18 := rfl

def FrOK (h : Heap) (S : Nat → Prop) (p : FP) : Prop := RdVals h S p.2.1 p.1.vars ∧ RdVals h S p.2.2 p.1.stack
theorem FrOK.keep {p : FP} (hr : FrOK h S p) (hk : Keep S h h') : FrOK h' S p := ⟨hr.1.keep hk, hr.2.keep hk⟩
theorem FrOK.sub {p : FP} (hr : FrOK h S p) (hS : ∀ j, S j → j < h.next → S' j) : FrOK h S' p := ⟨hr.1.sub hS, hr.2.sub hS⟩

/-- a list of frames -/
structure RdFrs (h : Heap) (S : Nat → Prop) (v : AV) (ps : List FP) : Prop where
  sl : Sl h S 18 v ps.length (ps.flatMap frC)
  ok : ∀ p ∈ ps, FrOK h S p

theorem RdFrs.keep {v : AV} {ps : List FP} (hr : RdFrs h S v ps) (hk : Keep S h h') : RdFrs h' S v ps := ⟨hr.sl.keep hk, fun p hp => (hr.ok p hp).keep hk⟩
theorem RdFrs.sub {v : AV} {ps : List FP} (hr : RdFrs h S v ps) (hS : ∀ j, S j → j < h.next → S' j) : RdFrs h S' v ps := ⟨hr.sl.sub hS, fun p hp => (hr.ok p hp).sub hS⟩

def plainF (ps : List FP) : List SF := ps.map (·.1)

/-- a list of lists of frames, and where they are -/
abbrev LP := AV × List FP
def lsC (q : LP) : List AV := [q.1]
theorem lsC_len (q : LP) : (lsC q).length = 1 := rfl
structure RdLs (h : Heap) (S : Nat → Prop) (v : AV) (qs : List LP) : Prop where
  sl : Sl h S 1 v qs.length (qs.flatMap lsC)
  ok : ∀ q ∈ qs, RdFrs h S q.1 q.2

theorem RdLs.keep {v : AV} {qs : List LP} (hr : RdLs h S v qs) (hk : Keep S h h') : RdLs h' S v qs := ⟨hr.sl.keep hk, fun p hp => (hr.ok p hp).keep hk⟩
theorem RdLs.sub {v : AV} {qs : List LP} (hr : RdLs h S v qs) (hS : ∀ j, S j → j < h.next → S' j) : RdLs h S' v qs := ⟨hr.sl.sub hS, fun p hp => (hr.ok p hp).sub hS⟩

def plainL (qs : List LP) : List (List SF) := qs.map fun q => plainF q.2

/-- the element that lies at an index: its address, and what is loaded there -/
theorem Sl.at_ {α : Type} {f : α → List AV} {e : Nat} {v : AV} {l : List α} (hs : Sl h S e v l.length (l.flatMap f)) (hf : ∀ x, (f x).length = e) {i : Nat} (hi : i < l.length) :
    ∃ a, isAddr a = true ∧ (∀ (t : Tm) (x j : Opd) (kk : IntKind), x.ev t = v → j.ev t = .int kk i → evOp (.idxAddrS e x j) t h = some (a, h)) ∧ loadA h true e a = some (.agg (f l[i])) ∧ ∀ o m, o + m ≤ e → atA h (addA a o) m = cut (f l[i]) o m := by
  obtain ⟨a, h1, h2, h3⟩ := ReadsL.at (f := f) (l := l) hs.rd hf hi
  refine ⟨a, h1, h2, ?_, h3⟩
  have := h3 0 e (by omega)
  rw [add_zero] at this
  simp only [loadA, this, cut_eq (show 0 + e ≤ (f l[i]).length by rw [hf]; omega), List.drop_zero, List.take_of_length_le (show (f l[i]).length ≤ e by rw [hf]; omega), readV, if_true]
end Go.AM
