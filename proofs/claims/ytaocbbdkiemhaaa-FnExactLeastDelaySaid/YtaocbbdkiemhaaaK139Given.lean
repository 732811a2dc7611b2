/- From a statement's first call to the small machine: arguments read as plain data; what is left behind. -/
import Derived.Test.YtaocbbdkiemhaaaK139SimP
import Derived.Test.YtaocbbdkiemhaaaK139W
import Derived.WalkKit
import Derived.ProofKit
import Derived.OpenShut
import Derived.ShutString
import Derived.ChangeOld
import Derived.Below
import Derived.Carry
import Derived.Test.YtaocbbdkiemhaaaK139
import Derived.Lib.Bytealg
import Derived.Lib.Repeat
import Derived.Lib.Join
import Derived.Lib.ItoaNum
import Derived.Lib.Replace
import Derived.Lib.SlTrimSet
import Derived.Lib.ParseIntB
import Derived.Lib.Strings
import Derived.Lib.FieldsP
set_option linter.unusedSimpArgs false
set_option linter.unusedVariables false
namespace Go.DM
set_option linter.unusedSectionVars false
variable [Tok]
open Go.ChangeShapes Go.WideShapes Go.ChangeAt Go.RowKit

def wfS : SK → S → Prop
  | .bool, .bool _ => True
  | .int k, .int k' n => k' = k ∧ (Lit.int k n).wf = true
  | .str, .str s => s.length ≤ maxLen
  | _, _ => False

def ksF (P : Program) (g : TypeId → Option (List SK)) : List Field → List SK → Option (List SK)
  | [], acc => some acc
  | f :: fs, acc => (g f.type).bind fun ks => if f.offset = acc.length ∧ P.cellsOf f.type = ks.length then ksF P g fs (acc ++ ks) else none
def ksOf (P : Program) : Nat → TypeId → Option (List SK)
  | 0, _ => none
  | d + 1, t => match P.underlying t with
    | some .bool => some [.bool]
    | some (.int k) => some [.int k]
    | some .string => some [.str]
    | some (.struct fs) => (ksF P (ksOf P d) fs.toList []).bind fun ks => if P.cellsOf t = ks.length then some ks else none
    | some (.array n e) => (ksOf P d e).bind fun ks => if P.cellsOf e = ks.length ∧ P.cellsOf t = n * ks.length then some (List.replicate n ks).flatten else none
    | _ => none

section
variable {H : Type} {enc : TypeId × Value → H} {P : Program} {w : World} {base : Nat} {sp : Nat → Bool} {held : Bool}

theorem encs_append' (a b : List S) : encs (a ++ b) = encs a ++ encs b := by simp [encs]

theorem ksF_open {g : TypeId → Option (List SK)} {cs : List Value}
    (hg : ∀ t ks, g t = some ks → ∀ fuel cs x, DataW.trod enc P w base sp held fuel t cs = some x → ∃ ss, cs = encs ss ∧ All2 wfS ks ss) :
    ∀ {fs : List Field} {acc ks : List SK}, ksF P g fs acc = some ks → (∀ f ∈ fs, ∃ n x, DataW.trod enc P w base sp held n f.type ((cs.drop f.offset).take (P.cellsOf f.type)) = some x) →
      (∃ ss, cs.take acc.length = encs ss ∧ All2 wfS acc ss) → ∃ ss, cs.take ks.length = encs ss ∧ All2 wfS ks ss
  | [], acc, ks, h, _, h0 => by cases h; exact h0
  | f :: fs, acc, ks, h, hf, ⟨ss0, h1, h2⟩ => by
    simp only [ksF] at h
    rw [Option.bind_eq_some_iff] at h
    obtain ⟨k1, hk1, h⟩ := h
    split at h
    · rename_i hc
      obtain ⟨n, x, hx⟩ := hf f (List.mem_cons_self ..)
      obtain ⟨ss1, e1, e2⟩ := hg _ _ hk1 _ _ _ hx
      refine ksF_open hg h (fun f' hf' => hf f' (List.mem_cons_of_mem _ hf')) ⟨ss0 ++ ss1, ?_, h2.append e2⟩
      rw [List.length_append, List.take_add, h1, encs_append', ← hc.2, ← hc.1, e1]
    · cases h

theorem ksOf_open : ∀ (d : Nat) (t : TypeId) (ks : List SK), ksOf P d t = some ks → ∀ (fuel : Nat) (cs : List Value) (x : DataW H × List MemPlace), DataW.trod enc P w base sp held fuel t cs = some x → ∃ ss, cs = encs ss ∧ All2 wfS ks ss
  | 0, t, ks, h, _, _, _, _ => by cases h
  | d + 1, t, ks, h, fuel, cs, x, hx => by
    have one : ∀ {k : SK} {s : S}, wfS k s → All2 wfS [k] [s] := fun h => .cons h .nil
    unfold ksOf at h
    split at h
    · rename_i ht
      cases h
      cases fuel with
      | zero => simp [DataW.trod] at hx
      | succ n =>
        cases cs with
        | nil => simp [DataW.trod, ht] at hx
        | cons v cs =>
          cases cs with
          | cons _ _ => cases v <;> simp [DataW.trod, ht] at hx
          | nil =>
            cases v <;> simp only [DataW.trod, ht] at hx <;> first | (cases hx; done) | skip
            rename_i b
            exact ⟨[.bool b], rfl, one trivial⟩
    · rename_i k ht
      cases h
      cases fuel with
      | zero => simp [DataW.trod] at hx
      | succ n =>
        cases cs with
        | nil => simp [DataW.trod, ht] at hx
        | cons v cs =>
          cases cs with
          | cons _ _ => cases v <;> simp [DataW.trod, ht] at hx
          | nil =>
            cases v <;> simp only [DataW.trod, ht] at hx <;> first | (cases hx; done) | skip
            rename_i k' m
            split at hx
            · rename_i hc
              exact ⟨[.int k' m], rfl, one ⟨hc.1, hc.2⟩⟩
            · cases hx
    · rename_i ht
      cases h
      cases fuel with
      | zero => simp [DataW.trod] at hx
      | succ n =>
        cases cs with
        | nil => simp [DataW.trod, ht] at hx
        | cons v cs =>
          cases cs with
          | cons _ _ => cases v <;> simp [DataW.trod, ht] at hx
          | nil =>
            cases v <;> simp only [DataW.trod, ht] at hx <;> first | (cases hx; done) | skip
            rename_i s
            split at hx
            · rename_i hc
              refine ⟨[.str s.data.toList], ?_, one ?_⟩
              · simp [encs, DM.enc]
              · show s.data.toList.length ≤ maxLen
                rw [Array.length_toList]; exact hc
            · cases hx
    · rename_i fs ht
      rw [Option.bind_eq_some_iff] at h
      obtain ⟨k1, hk1, h⟩ := h
      split at h
      · rename_i hc
        cases h
        obtain ⟨xs, n, _, _, hl, hlen, hg⟩ := DataW.trod_struct ht hx
        obtain ⟨ss, e1, e2⟩ := ksF_open (cs := cs) (ksOf_open d) hk1 (fun f hf => by
          obtain ⟨i, hi, rfl⟩ := List.mem_iff_getElem.1 hf
          have hi' : i < fs.size := by simpa using hi
          have h0 := hg i fs[i] (by simp [hi'])
          obtain ⟨y, hy⟩ : ∃ y, xs[i]? = some y := ⟨xs[i]'(by omega), by simp⟩
          rw [hy] at h0
          exact ⟨n, y, by simpa using h0⟩) ⟨[], by simp [encs], .nil⟩
        rw [← hc, ← hl, List.take_length] at e1
        exact ⟨ss, e1, e2⟩
      · cases h
    · rename_i m e ht
      rw [Option.bind_eq_some_iff] at h
      obtain ⟨k1, hk1, h⟩ := h
      split at h
      · rename_i hc
        cases h
        obtain ⟨xs, n, _, _, hl, hlen, hg⟩ := DataW.trod_array ht hx
        have key : ∀ i, i ≤ m → ∃ ss, cs.take (i * k1.length) = encs ss ∧ All2 wfS (List.replicate i k1).flatten ss := by
          intro i
          induction i with
          | zero => intro _; exact ⟨[], by simp [encs], .nil⟩
          | succ i ih =>
            intro hi
            obtain ⟨ss, e1, e2⟩ := ih (by omega)
            have h0 := hg i (by omega)
            obtain ⟨y, hy⟩ : ∃ y, xs[i]? = some y := ⟨xs[i]'(by omega), by simp⟩
            rw [hy] at h0
            obtain ⟨s1, e3, e4⟩ := ksOf_open d _ _ hk1 _ _ _ h0
            refine ⟨ss ++ s1, ?_, ?_⟩
            · rw [Nat.succ_mul, List.take_add, e1, encs_append', ← e3, hc.1]
            · rw [List.replicate_succ', List.flatten_append]
              simpa using e2.append e4
        obtain ⟨ss, e1, e2⟩ := key m (Nat.le_refl _)
        rw [← hc.2, ← hl, List.take_length] at e1
        exact ⟨ss, e1, e2⟩
      · cases h
    · cases h

/-- An argument of a plain type of several cells. -/
theorem open_agg {t : TypeId} {ks : List SK} {v : Value} {d : DataW H} {ps : List MemPlace} {r : Reach} {b0 : Nat} (hk : ksOf P 20 t = some ks) (hrow : rowIs P t true = true) (hv : Value.okWide P w r b0 t v) (h : DataW.Trod enc P w base sp held t v d ps) :
    ∃ ss, v = .agg (encs ss).toArray ∧ All2 wfS ks ss := by
  obtain ⟨fuel, hf⟩ := h
  obtain ⟨ss, e1, e2⟩ := ksOf_open 20 t ks hk _ _ _ hf
  have : ∃ cs, v = .agg cs := by
    unfold rowIs at hrow
    unfold Value.okWide at hv
    split at hv
    · obtain ⟨cs, h1, _⟩ := hv; exact ⟨cs, h1⟩
    · obtain ⟨cs, h1, _⟩ := hv; exact ⟨cs, h1⟩
    · rename_i h1 h2
      cases hu : P.underlying t with
      | none => rw [hu] at hrow; cases hrow
      | some q =>
        rw [hu] at hrow
        cases q <;> first | (cases hrow; done) | skip
        · exact (h2 _ _ hu).elim
        · exact (h1 _ hu).elim
  obtain ⟨cs, rfl⟩ := this
  refine ⟨ss, ?_, e2⟩
  have : cs.toList = encs ss := e1
  rw [← this]

/-- What a call of the small machine says of the program's. -/
theorem contract_of {ρ : Nat → Nat} {κ : Kn} {Γ : Nat → Option Fn} {F f : Nat} {ds : List D} {vs : List Value} (hm : P.follows .mixedOrders = true) (hT : Table P ρ κ Γ) (hF : ρ f = F) (W : World) (hk1 : κ.Ks W) (hk2 : κ.n0 ≤ W.heap.size)
    (hrel : All2 (DRel ρ (fun b => b < W.heap.size) W) ds vs) (hg : Gives Γ f (ds.map .d) ⟨[.s (.bool true)], []⟩) :
    Go.Calls P F vs.toArray W fun e W' => e = .returned (.bool true) ∧ Below W.heap.size W W' := by
  subst hF
  obtain ⟨n, hn⟩ := hg
  have ha : ArgsRel ρ W (ds.map .d) vs (List.replicate vs.length none) := by
    have hs : some? (List.replicate vs.length (none : Option Reg)) = [] := by
      simp [some?, List.filterMap_replicate]
    refine ⟨by simp [hrel.1], by simp [hrel.1], fun i x v r hx hv hr => ?_, ⟨fun m hm => ?_, fun m hm => ?_⟩, fun i j m m' hi => ?_⟩
    · simp only [List.getElem?_map, Option.map_eq_some_iff] at hx
      obtain ⟨y, hy, rfl⟩ := hx
      have : r = none := by
        rw [List.getElem?_replicate] at hr
        split at hr
        · cases hr; rfl
        · cases hr
      subst this
      have := hrel.2 i y v hy hv
      exact DRel.mono (fun b hb => ⟨⟨hb, fun m hm => by rw [hs] at hm; cases hm⟩, rfl⟩) this
    · rw [hs] at hm; cases hm
    · rw [hs] at hm; cases hm
    · rw [List.getElem?_replicate] at hi
      split at hi
      · cases hi
      · cases hi
  refine Go.Calls.mono (callN_sound hm hT n f _ _ hn W vs _ ha hk1 hk2 (fun m hm => by rw [show some? (List.replicate vs.length (none : Option Reg)) = [] by simp [some?, List.filterMap_replicate]] at hm; cases hm)) fun e W' he => ?_
  obtain ⟨v, rfl, hleft, ⟨us, bs, hv, h1, h2, h3, _⟩, _⟩ := he
  have hs : some? (List.replicate vs.length (none : Option Reg)) = [] := by
    simp [some?, List.filterMap_replicate]
  rw [hs] at hleft
  obtain ⟨u, rfl⟩ : ∃ u, us = [u] := by
    cases us with
    | nil => simp at h1
    | cons u us =>
      cases us with
      | nil => exact ⟨u, rfl⟩
      | cons _ _ => simp at h1
  obtain ⟨b, rfl⟩ : ∃ b, bs = [b] := by
    cases bs with
    | nil => simp at h2
    | cons u us =>
      cases us with
      | nil => exact ⟨u, rfl⟩
      | cons _ _ => simp at h2
  have h4 := h3 0 _ u b rfl rfl rfl
  have : u = .bool true := by
    cases b with
    | none => exact h4
    | some b => exact h4.elim
  subst this
  subst hv
  exact ⟨rfl, hleft.os, hleft.tape, hleft.output, hleft.size, fun k hk => hleft.same k hk fun m hm => by cases hm⟩
end
end Go.DM

/- Functions of Go's library whose answers are given: what they give. -/
namespace Go.DM
set_option linter.unusedSectionVars false
variable [Tok]
def indexByteO : List Arg → Option Res
  | [.d (.s (.str s)), .d (.s (.int .u8 c))] => some ⟨[.s (.int .i64 (Lib.indexByte s c.toNat.toUInt8))], []⟩
  | _ => none
def repeatO : List Arg → Option Res
  | [.d (.s (.str s)), .d (.s (.int .i64 n))] => if 0 ≤ n ∧ n ≤ 1000000 ∧ s.length ≤ 1000000 then some ⟨[.s (.str (Lib.repeatL s n.toNat))], []⟩ else none
  | _ => none
def strsOf : List S → Option (List (List UInt8))
  | [] => some []
  | .str s :: r => (strsOf r).map (s :: ·)
  | _ => none
def joinO : List Arg → Option Res
  | [.d (.sl n 1 cs), .d (.s (.str sep))] => (strsOf cs).bind fun xs => if xs.length = n ∧ n ≤ 1000000 ∧ (Lib.join xs sep).length ≤ 1000000 then some ⟨[.s (.str (Lib.join xs sep))], []⟩ else none
  | _ => none
def formatO : List Arg → Option Res
  | [.d (.s (.int .i64 n)), .d (.s (.int .i64 10))] => if 0 ≤ n ∧ n < 100 then some ⟨[.s (.str (Lib.decDigits n.toNat))], []⟩ else if -100 ≤ n ∧ n < 0 then some ⟨[.s (.str (Lib.itoa n))], []⟩ else none
  | _ => none
/-- A text, cut at each byte c. -/
def pieces (c : UInt8) : List UInt8 → List (List UInt8)
  | [] => [[]]
  | b :: r => if b = c then [] :: pieces c r else match pieces c r with | [] => [[b]] | p :: ps => (b :: p) :: ps
def splitO : List Arg → Option Res
  | [.d (.s (.str s)), .d (.s (.str [c]))] => if s.length ≤ 2000000 then some ⟨[.own (pieces c s).length 1 ((pieces c s).map S.str)], []⟩ else none
  | _ => none
def trimSuffixO : List Arg → Option Res
  | [.d (.s (.str s)), .d (.s (.str p))] => if s.length ≤ 2000000 then some ⟨[.s (.str (Lib.trimSuffix s p))], []⟩ else none
  | _ => none
def trimO : List Arg → Option Res
  | [.d (.s (.str s)), .d (.s (.str c))] => if s.length ≤ 2000000 ∧ c.length ≤ 100 ∧ c.all (fun b => decide (b.toNat < 128)) = true then some ⟨[.s (.str (Lib.trimS s c))], []⟩ else none
  | _ => none
def replaceO : List Arg → Option Res
  | [.d (.s (.str s)), .d (.s (.str [c])), .d (.s (.str []))] => if s.length ≤ 2000000 then some ⟨[.s (.str (Lib.replaceAll s [c] []))], []⟩ else none
  | _ => none
/-- The number of a decimal, -1000 if it is none. -/
def numL (l : List UInt8) : Int := match Lib.parseIntB 64 l with | .ok v => v | _ => -1000
def numberO : List Arg → Option Res
  | [.d (.s (.str s))] => if s.length ≤ 2000000 then some ⟨[.s (.int .i64 (numL s))], []⟩ else none
  | _ => none
/-- A space or the end of a line; a text's words between them. -/
def spP (n : Nat) : Bool := n == 32 || n == 10
def fieldsL (s : List UInt8) : List (List UInt8) := (Lib.goFieldsP spP ⟨s.toArray⟩).map (·.data.toList)
def fieldsO (k : Nat) : List Arg → Option Res
  | [.d (.s (.str s)), .d (.clo f [] [])] => if f = k ∧ s.length ≤ 2000000 then some ⟨[.own (fieldsL s).length 1 ((fieldsL s).map S.str)], []⟩ else none
  | _ => none
end Go.DM
