/- Rounds: what is known of the weeds and rounds that are drawn. -/
import Derived.Test.YtimkdadlmolnaaaGreatDoorK402WeedL
import Derived.Test.YtimkdadlmolnaaaGreatDoorK402Loop
set_option linter.unusedSectionVars false
set_option linter.unusedSimpArgs false
set_option linter.unusedVariables false
set_option maxHeartbeats 4000000
namespace Go.DM
variable [Tok]
open Go.IntWalk
structure RndIn (w h : Int) (g : Nat → Int) (cs : List S) (q : Nat → Int) (rs : List Rnd) (n0 bound : Int) (k : Nat) (oth : Nat → Int) : Prop where
  l : IsLawn w h g cs
  ok : LawnOk w h g
  wb : 1 ≤ w ∧ w ≤ 6
  hb : 1 ≤ h ∧ h ≤ 6
  good : WGood w h g q
  rl : rs.length ≤ 5
  rin : RowsIn h rs
  nb : 0 ≤ n0 ∧ n0 ≤ 2
  kb : k ≤ 2
  bb : 0 ≤ bound ∧ bound ≤ 11
  ob : ∀ j, 0 ≤ oth j ∧ oth j < h
  big : Gives G 381 [.d (.s (.tok 0)), .d (.s (.tok 1))] (rb false)
  lawn : Gives G 403 [.d (.s (.tok 0))] ⟨[.agg cs], []⟩
  weeds : Gives G 404 [.d (.s (.tok 1)), aa cs] ⟨[.agg (wR q)], []⟩
  rnds : Gives G 405 [.d (.s (.tok 0)), aa cs] ⟨[.own rs.length 2 (encO rs)], []⟩
  a0 : Gives G 406 [.d (.s (.tok 1)), ai .i64 0, ai .i64 3] (ri .i64 n0)
  a1 : Gives G 406 [.d (.s (.tok 1)), ai .i64 1, ai .i64 3] (ri .i64 (k : Nat))
  a2 : Gives G 406 [.d (.s (.tok 1)), ai .i64 2, ai .i64 12] (ri .i64 bound)
  ao : ∀ j : Nat, j ≤ 2 → Gives G 406 [.d (.s (.tok 0)), ai .i64 (j : Nat), ai .i64 h] (ri .i64 (oth j))
end Go.DM

/- A state is told anew. -/
namespace Go.DM
variable [Tok]
theorem W.cutC {Γ : Nat → Option Fn} {c : Code} {Q : Ex → St → Prop} {σ0 : St} (N : List Nat) (E : List (Nat × V)) (O : List (Nat × Ob)) (hE : isE σ0 E) (hO : isO σ0 O) (hN : noP σ0 N) (h : ∀ σ, noP σ N → W Γ c Q (putL O (setL E σ))) : W Γ c Q σ0 := by
  have := h σ0 hN
  rw [setL_self hE, putL_self hO] at this
  exact this
end Go.DM
