/- Ways: what is known of a way that is drawn. -/
import Derived.Test.YtadlffkjghjciaaGreatDoorK380Ways3
import Derived.Test.YtadlffkjghjciaaGreatDoorK380Loop
set_option linter.unusedSectionVars false
set_option linter.unusedSimpArgs false
set_option linter.unusedVariables false
namespace Go.DM
variable [Tok]
open Go.IntWalk
abbrev sArg (s : List UInt8) : Arg := .d (.s (.str s))
def sums (L : List Int) : Nat → Int
  | 0 => 0
  | i + 1 => sums L i + gI L i
def strRes (s : List UInt8) : Res := ⟨[.s (.str s), .s (.int .i64 0)], []⟩
def intRes (n k : Int) : Res := ⟨[.s (.int .i64 n), .s (.int .i64 k)], []⟩
def boolRes (b : Bool) : Res := ⟨[.s (.bool b), .s (.int .i64 0)], []⟩
def listRes (L : List Cel) : Res := ⟨[.own L.length 2 (encC L), .s (.int .i64 0)], []⟩
structure CellFact (w h : Int) (CUT REST : List Cel) (PIC : List (List UInt8)) (n : Int) (x y : Int) : Prop where
  hs : Has w h x y
  b : 0 ≤ n ∧ n ≤ 20
  row : ((gS PIC y.toNat).length : Int) = w
  cut : 0 < n ↔ (x, y) ∈ CUT
  rest : (x, y) ∈ CUT → (x, y) ∉ REST
  pic : 0 < n ↔ gB (gS PIC y.toNat) x.toNat ≠ 46
structure WaysIn (w h : Int) (g : Nat → Int) (cs : List S) (s rv lo hm : List UInt8) (c e : Cel) (CUT REST GRS ALL : List Cel) (OFT : List Int) (PIC : List (List UInt8)) : Prop where
  l : IsLawn w h g cs
  wb : 1 ≤ w ∧ w ≤ 4
  hb : 1 ≤ h ∧ h ≤ 3
  sl : s.length ≤ 19
  big : Gives G 381 [.d (.s (.tok 0)), .d (.s (.tok 1))] (rb false)
  sm : Gives G 382 [.d (.s (.tok 0))] ⟨[.agg cs, .agg [.int .i8 c.1, .int .i8 c.2]], []⟩
  wy : Gives G 383 [.d (.s (.tok 1)), aa cs, ac c.1 c.2] ⟨[.s (.str s)], []⟩
  a84 : Gives G 384 [aa cs, ac c.1 c.2, sArg s] (boolRes true)
  a85 : Gives G 385 [aa cs, ac c.1 c.2, sArg s] (endRes e)
  a86 : Gives G 386 [aa cs, ac c.1 c.2, sArg s] (endRes e)
  m97 : Gives G 197 [aa cs, ac c.1 c.2, sArg s] (listRes CUT)
  m96 : Gives G 196 [aa cs, ac c.1 c.2, sArg s] (listRes CUT)
  l41 : Gives G 41 [aa cs, ac c.1 c.2, sArg s] (listRes REST)
  l95 : Gives G 195 [aa cs, ac c.1 c.2, sArg s] (listRes REST)
  t46 : Gives G 146 [aa cs, ac c.1 c.2, sArg s] ⟨[.own OFT.length 1 (encI .i64 OFT), .s (.int .i64 0)], []⟩
  t45 : Gives G 145 [aa cs, ac c.1 c.2, sArg s] ⟨[.own OFT.length 1 (encI .i64 OFT), .s (.int .i64 0)], []⟩
  p90 : Gives G 290 [aa cs, ac c.1 c.2, sArg s] ⟨[.own PIC.length 1 (encS PIC), .s (.int .i64 0)], []⟩
  p89 : Gives G 289 [aa cs, ac c.1 c.2, sArg s] ⟨[.own PIC.length 1 (encS PIC), .s (.int .i64 0)], []⟩
  g87 : Gives G 387 [aa cs, ai .i64 0] (listRes GRS)
  c90 : Gives G 390 [aa cs] ⟨[.own ALL.length 2 (encC ALL)], []⟩
  bC : CUT.length ≤ 100
  bR : REST.length ≤ 100
  bG : (CUT.length : Int) + REST.length = GRS.length
  bO : (OFT.length : Int) = w * h
  bA : (ALL.length : Int) = w * h
  bW : 1 ≤ w * h ∧ w * h ≤ 12
  bP : (PIC.length : Int) = h
  cell : ∀ i, i < ALL.length → CellFact w h CUT REST PIC (gI OFT i) (gC ALL i).1 (gC ALL i).2
  sum : ∀ i, i ≤ ALL.length → 0 ≤ sums OFT i ∧ sums OFT i ≤ (s.length : Int) + 1
  r92 : Gives G 392 [sArg s] (strRes rv)
  r93 : Gives G 393 [sArg s] (strRes rv)
  rl : rv.length = s.length
  rE : Gives G 385 [aa cs, ac e.1 e.2, sArg rv] (endRes c)
  o94 : Gives G 394 [sArg s] (strRes lo)
  o95 : Gives G 395 [sArg s] (strRes lo)
  ol : lo.length ≤ s.length ∧ ((s.length : Int) - lo.length) % 2 = 0
  oE : Gives G 385 [aa cs, ac c.1 c.2, sArg lo] (endRes e)
  o2 : Gives G 394 [sArg lo] (strRes lo)
  h96 : Gives G 396 [aa cs, ac c.1 c.2, ac e.1 e.2] (strRes hm)
  h97 : Gives G 397 [aa cs, ac c.1 c.2, ac e.1 e.2] (strRes hm)
  h98 : Gives G 398 [aa cs, ac c.1 c.2, ac e.1 e.2] (intRes (hm.length : Nat) 0)
  hl : hm.length ≤ lo.length
  hE : Gives G 385 [aa cs, ac c.1 c.2, sArg hm] (endRes e)
structure TailA (cs : List S) (s : List UInt8) (c : Cel) (REST : List Cel) : Prop where
  r : REST.length ≠ 0
  wh : Gives G 18 [aa cs, ac c.1 c.2, sArg s] (boolRes false)
  f1 : Gives G 163 [aa cs, ac c.1 c.2, sArg s] (intRes 0 6)
  f2 : Gives G 162 [aa cs, ac c.1 c.2, sArg s] (intRes 0 6)
structure TailB (cs : List S) (s : List UInt8) (c : Cel) (REST : List Cel) (k : Nat) : Prop where
  r : REST.length = 0
  wh : Gives G 18 [aa cs, ac c.1 c.2, sArg s] (boolRes true)
  f1 : Gives G 163 [aa cs, ac c.1 c.2, sArg s] (intRes (k : Nat) 0)
  f2 : Gives G 162 [aa cs, ac c.1 c.2, sArg s] (intRes (k : Nat) 0)
  kb : k ≤ s.length
  i1 : Gives G 18 [aa cs, ac c.1 c.2, sArg ((s.drop 0).take (k - 0))] (boolRes true)
  i2 : 0 < k → Gives G 18 [aa cs, ac c.1 c.2, sArg ((s.drop 0).take (k - 1 - 0))] (boolRes false)
end Go.DM

/- A state is told anew. -/
namespace Go.DM
variable [Tok]
theorem W.cutC {Γ : Nat → Option Fn} {c : Code} {Q : Ex → St → Prop} {σ0 : St} (N : List Nat) (E : List (Nat × V)) (O : List (Nat × Ob)) (hE : isE σ0 E) (hO : isO σ0 O) (hN : noP σ0 N) (h : ∀ σ, noP σ N → W Γ c Q (putL O (setL E σ))) : W Γ c Q σ0 := by
  have := h σ0 hN
  rw [setL_self hE, putL_self hO] at this
  exact this
end Go.DM
