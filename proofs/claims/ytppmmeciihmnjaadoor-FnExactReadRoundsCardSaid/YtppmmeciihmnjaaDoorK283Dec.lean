/- A text cut at each byte: both sides. -/
import Derived.Test.YtppmmeciihmnjaaDoorK283Round
import Derived.Test.YtppmmeciihmnjaaDoorK283SplitK
import Derived.Test.YtppmmeciihmnjaaDoorK283Text
import Derived.Test.YtppmmeciihmnjaaDoorK283More
set_option linter.unusedSimpArgs false
set_option linter.unusedVariables false
set_option maxHeartbeats 4000000
namespace Go.DM
open Go.IntWalk
/-- A piece begun, and the rest of the pieces. -/
def glue (pre : List UInt8) : List (List UInt8) → List (List UInt8)
  | [] => [pre]
  | p :: ps => (pre ++ p) :: ps
theorem glue_nil (c : UInt8) (s : List UInt8) : glue [] (pieces c s) = pieces c s := by
  cases h : pieces c s with
  | nil => exact absurd h (pieces_ne c s)
  | cons p ps => rfl
theorem glue_hit (c : UInt8) (pre r : List UInt8) : glue pre (pieces c (c :: r)) = pre :: pieces c r := by rw [pieces_hit]; simp [glue]
theorem glue_miss {b c : UInt8} (h : b ≠ c) (pre r : List UInt8) : glue pre (pieces c (b :: r)) = glue (pre ++ [b]) (pieces c r) := by
  obtain ⟨p, ps, h1, h2⟩ := pieces_miss h r
  rw [h2, h1]; simp [glue]
theorem drop_at {s : List UInt8} {k : Nat} (h : k < s.length) : s.drop k = s.getD k 0 :: s.drop (k + 1) := by
  rw [List.drop_eq_getElem_cons h]; simp [List.getD_eq_getElem?_getD, h]
theorem gB_eq {s : List UInt8} {k : Nat} {c : UInt8} (h : gB s k = (c.toNat : Int)) : s.getD k 0 = c := by
  unfold gB at h
  exact UInt8.toNat_inj.1 (by exact_mod_cast h)
theorem gB_ne {s : List UInt8} {k : Nat} {c : UInt8} (h : gB s k ≠ (c.toNat : Int)) : s.getD k 0 ≠ c := fun e => h (by unfold gB; rw [e])
theorem pieces_le (c : UInt8) (s : List UInt8) : (pieces c s).length ≤ s.length + 1 := by
  rw [pieces_count]; have := List.count_le_length (a := c) (l := s); omega
theorem l01Split_gives (s : List UInt8) (c : UInt8) (hs : s.length ≤ 2000000) : Gives G 236 [.d (.s (.str s)), .d (.s (.int .u8 (c.toNat : Nat)))] ⟨[.own (pieces c s).length 1 (encS (pieces c s))], []⟩ := by
  refine Gives.by rfl rfl (W.seq ?_)
  repeat' first | ((with_reducible apply WR.mv); exact rfl; exact rfl) | ((with_reducible apply WR.bsS0); exact rfl; (first | exact rfl)) | ((with_reducible apply WR.nil)) | (with_reducible refine andThen_n ?_) | (with_reducible refine W.seq ?_) | (with_reducible refine W.region ?_) | (with_reducible refine W.block ?_)
  (refine (?_ : W _ (Code.loop _) _ _))
  (refine W.loopM [0, 1] [] [25, 26, 33, 34] (fun zz : (List (List UInt8)) × (Nat) × (Nat) => match zz with | (out, f, i) => (s.length - i : Nat)) (fun zz : (List (List UInt8)) × (Nat) × (Nat) => match zz with | (out, f, i) => (f ≤ i ∧ i ≤ s.length ∧ out.length ≤ i ∧ pieces c s = out ++ glue ((s.drop f).take (i - f)) (pieces c (s.drop i)) : Prop)) (fun zz : (List (List UInt8)) × (Nat) × (Nat) => match zz with | (out, f, i) => [(5, .a (.sl 8 0 out.length 1)), (6, .a (.d (.s (.int .i64 (f : Nat))))), (7, .a (.d (.s (.int .i64 (i : Nat)))))]) (fun zz : (List (List UInt8)) × (Nat) × (Nat) => match zz with | (out, f, i) => [(8, .flat false (encS out))]) ([], 0, 0) (⟨by omega, by omega, by simp, by simp [glue_nil]⟩) ⟨rfl, rfl, rfl, trivial⟩ ⟨rfl, trivial⟩ ⟨(by (repeat' first | exact rfl | assumption | (with_reducible apply noPar_set) | ((with_reducible apply noPar_puto); exact rfl) | (with_reducible apply noPar_put) | (with_reducible apply noPar_putv) | (with_reducible apply noPar_kill) | ((with_reducible apply noPar_mix); exact rfl) | ((with_reducible apply noPar_mixT); exact rfl)); done), (by (repeat' first | exact rfl | assumption | (with_reducible apply noPar_set) | ((with_reducible apply noPar_puto); exact rfl) | (with_reducible apply noPar_put) | (with_reducible apply noPar_putv) | (with_reducible apply noPar_kill) | ((with_reducible apply noPar_mix); exact rfl) | ((with_reducible apply noPar_mixT); exact rfl)); done), (by (repeat' first | exact rfl | assumption | (with_reducible apply noPar_set) | ((with_reducible apply noPar_puto); exact rfl) | (with_reducible apply noPar_put) | (with_reducible apply noPar_putv) | (with_reducible apply noPar_kill) | ((with_reducible apply noPar_mix); exact rfl) | ((with_reducible apply noPar_mixT); exact rfl)); done), (by (repeat' first | exact rfl | assumption | (with_reducible apply noPar_set) | ((with_reducible apply noPar_puto); exact rfl) | (with_reducible apply noPar_put) | (with_reducible apply noPar_putv) | (with_reducible apply noPar_kill) | ((with_reducible apply noPar_mix); exact rfl) | ((with_reducible apply noPar_mixT); exact rfl)); done), trivial⟩ ?_)
  rintro ⟨out, f, i⟩ σ hP hN; dsimp only [setL, putL] at hP ⊢; obtain ⟨n25, hN⟩ := hN; obtain ⟨n26, hN⟩ := hN; obtain ⟨n33, hN⟩ := hN; obtain ⟨n34, hN⟩ := hN
  obtain ⟨hf, hi, ho, he⟩ := hP
  by_cases hil : i < s.length
  · repeat' first | ((with_reducible apply WR.mv); exact rfl; exact rfl) | ((with_reducible apply WR.bsS1); exact rfl; exact rfl; (first | assumption)) | ((with_reducible apply WR.nil)) | (with_reducible refine andThen_n ?_) | (with_reducible refine inB_n ?_) | (with_reducible refine W.seq ?_) | (with_reducible refine W.region ?_) | (with_reducible refine W.skip ?_) | (with_reducible refine W.block ?_) | ((with_reducible apply W.condT); exact rfl) | ((with_reducible apply W.condF); exact rfl) | (intro hb; try (exfalso; omega)) | ((with_reducible apply WR.sst); exact rfl; exact rfl; (first | exact bound_str); (first | exact bound_str); exact ⟨by omega, by omega⟩) | ((with_reducible apply WR.apS); exact rfl; exact rfl; exact rfl; exact rfl; (first | omega)) | ((with_reducible apply WR.ad); exact rfl; exact rfl; exact rfl; (first | exact i64_in _ (by omega) | assumption)) | ((with_reducible apply WR.ist); exact rfl; exact rfl; exact rfl; (first | omega)) | ((with_reducible apply WR.lss); exact rfl; exact rfl; exact rfl) | ((with_reducible apply WR.eql); exact rfl; exact rfl; exact rfl) | ((with_reducible apply WR.le); exact rfl; exact rfl)
    · (refine W.nxt ((out ++ [(s.drop f).take (i - f)], i + 1, i + 1)) (by first | omega | (dsimp only; omega)) ?_ ⟨rfl, rfl, rfl, trivial⟩ ⟨rfl, trivial⟩ ⟨rfl, rfl, trivial⟩ trivial ⟨(by (repeat' first | exact rfl | assumption | (with_reducible apply noPar_set) | ((with_reducible apply noPar_puto); exact rfl) | (with_reducible apply noPar_put) | (with_reducible apply noPar_putv) | (with_reducible apply noPar_kill) | ((with_reducible apply noPar_mix); exact rfl) | ((with_reducible apply noPar_mixT); exact rfl)); done), (by (repeat' first | exact rfl | assumption | (with_reducible apply noPar_set) | ((with_reducible apply noPar_puto); exact rfl) | (with_reducible apply noPar_put) | (with_reducible apply noPar_putv) | (with_reducible apply noPar_kill) | ((with_reducible apply noPar_mix); exact rfl) | ((with_reducible apply noPar_mixT); exact rfl)); done), (by (repeat' first | exact rfl | assumption | (with_reducible apply noPar_set) | ((with_reducible apply noPar_puto); exact rfl) | (with_reducible apply noPar_put) | (with_reducible apply noPar_putv) | (with_reducible apply noPar_kill) | ((with_reducible apply noPar_mix); exact rfl) | ((with_reducible apply noPar_mixT); exact rfl)); done), (by (repeat' first | exact rfl | assumption | (with_reducible apply noPar_set) | ((with_reducible apply noPar_puto); exact rfl) | (with_reducible apply noPar_put) | (with_reducible apply noPar_putv) | (with_reducible apply noPar_kill) | ((with_reducible apply noPar_mix); exact rfl) | ((with_reducible apply noPar_mixT); exact rfl)); done), trivial⟩); (try dsimp only)
      refine ⟨by omega, by omega, by simp; omega, ?_⟩
      rw [he, drop_at hil, show s.getD i 0 = c from gB_eq (by simpa using hb), glue_hit]
      simp [glue_nil]
    · (refine W.nxt ((out, f, i + 1)) (by first | omega | (dsimp only; omega)) ?_ ⟨rfl, rfl, rfl, trivial⟩ ⟨rfl, trivial⟩ ⟨rfl, rfl, trivial⟩ trivial ⟨(by (repeat' first | exact rfl | assumption | (with_reducible apply noPar_set) | ((with_reducible apply noPar_puto); exact rfl) | (with_reducible apply noPar_put) | (with_reducible apply noPar_putv) | (with_reducible apply noPar_kill) | ((with_reducible apply noPar_mix); exact rfl) | ((with_reducible apply noPar_mixT); exact rfl)); done), (by (repeat' first | exact rfl | assumption | (with_reducible apply noPar_set) | ((with_reducible apply noPar_puto); exact rfl) | (with_reducible apply noPar_put) | (with_reducible apply noPar_putv) | (with_reducible apply noPar_kill) | ((with_reducible apply noPar_mix); exact rfl) | ((with_reducible apply noPar_mixT); exact rfl)); done), (by (repeat' first | exact rfl | assumption | (with_reducible apply noPar_set) | ((with_reducible apply noPar_puto); exact rfl) | (with_reducible apply noPar_put) | (with_reducible apply noPar_putv) | (with_reducible apply noPar_kill) | ((with_reducible apply noPar_mix); exact rfl) | ((with_reducible apply noPar_mixT); exact rfl)); done), (by (repeat' first | exact rfl | assumption | (with_reducible apply noPar_set) | ((with_reducible apply noPar_puto); exact rfl) | (with_reducible apply noPar_put) | (with_reducible apply noPar_putv) | (with_reducible apply noPar_kill) | ((with_reducible apply noPar_mix); exact rfl) | ((with_reducible apply noPar_mixT); exact rfl)); done), trivial⟩); (try dsimp only)
      refine ⟨by omega, by omega, by omega, ?_⟩
      rw [he, drop_at hil, glue_miss (show s.getD i 0 ≠ c from gB_ne (by simpa using hb))]
      congr 2
      rw [show i + 1 - f = (i - f) + 1 by omega, List.take_add_one, List.getElem?_drop, show f + (i - f) = i by omega, List.getElem?_eq_getElem hil]
      simp [List.getD_eq_getElem?_getD, hil]
  · obtain rfl : i = s.length := by omega
    have e : pieces c s = out ++ [(s.drop f).take (s.length - f)] := by rw [he]; simp [pieces, glue]
    rw [e]
    repeat' first | ((with_reducible apply WR.mv); exact rfl; exact rfl) | ((with_reducible apply WR.bsS1); exact rfl; exact rfl; (first | exact rfl | assumption)) | ((with_reducible apply WR.nil)) | (with_reducible refine andThen_n ?_) | (with_reducible refine andThen_x ?_) | (with_reducible refine inB_x ?_) | (with_reducible refine W.seq ?_) | (with_reducible refine W.region ?_) | (with_reducible refine W.ret ?_) | (with_reducible refine W.exit ?_) | ((with_reducible apply W.condF); exact rfl) | ((with_reducible apply Done.f); (intro hh hh2; exact (nomatch hh2)); (focus ((repeat' first | exact all_nil | apply all_cons | exact res_tmp rfl | exact rfl); done)); (focus ((repeat' first | exact all_nil | apply all_cons | exact retOf_o rfl rfl (by first | exact (encS_length _).trans (Nat.mul_one _).symm | assumption | exact rfl) | exact rfl); done)); exact rfl; (focus ((repeat' first | exact outs_nil | apply outs_d | exact rfl); done))) | (intro hb; try (exfalso; omega)) | ((with_reducible apply WR.sst); exact rfl; exact rfl; (first | exact bound_str | exact rfl); (first | exact bound_str | exact rfl); exact ⟨by omega, by omega⟩) | ((with_reducible apply WR.apS); exact rfl; exact rfl; exact rfl; exact rfl; (first | omega)) | ((with_reducible apply WR.lss); exact rfl; exact rfl; exact rfl) | ((with_reducible apply WR.le); exact rfl; exact rfl)
    rfl
end Go.DM

/- Numbers as text, texts put together: what the library and the reference give. -/
set_option linter.unusedSimpArgs false
set_option linter.unusedVariables false
set_option maxHeartbeats 4000000
namespace Go.DM
open Go.IntWalk
theorem join_gives (l : List (List UInt8)) (sep : List UInt8) (h : l.length ≤ 1000000 ∧ (Lib.join l sep).length ≤ 1000000) : Gives G 234 [.d (.sl l.length 1 (encS l)), .d (.s (.str sep))] ⟨[.s (.str (Lib.join l sep))], []⟩ :=
  Gives.given rfl rfl (by
    simp only [joinO, strsOf_encS, Option.bind_some]
    rw [if_pos ⟨trivial, h.1, h.2⟩])
/-- A number from -9 to 9 as text. -/
def itemT (n : Int) : List UInt8 := if n < 0 then [45, UInt8.ofNat (48 + (-n).toNat)] else [UInt8.ofNat (48 + n.toNat)]
theorem itemT_len (n : Int) : (itemT n).length ≤ 2 := by unfold itemT; split <;> simp
theorem format_item (n : Int) (h : -9 ≤ n ∧ n ≤ 9) : Gives G 242 [ai .i64 n, ai .i64 10] ⟨[.s (.str (itemT n))], []⟩ :=
  Gives.given rfl rfl (by
    simp only [formatO, itemT]
    by_cases h0 : n < 0
    · rw [if_neg (by omega), if_pos (by omega), if_pos h0, Lib.itoa, if_pos h0, Lib.decDigits, dif_pos (by omega), show n.natAbs = (-n).toNat by omega]
    · rw [if_pos (by omega), if_neg h0, Lib.decDigits, dif_pos (by omega)])
theorem dec_item (n : Int) (h : -9 ≤ n ∧ n ≤ 9) : Gives G 230 [ai .i64 n] ⟨[.s (.str (itemT n))], []⟩ := by
  have hf := format_item n h
  refine Gives.by rfl rfl (W.seq ?_)
  repeat' first | ((with_reducible apply WR.c_s (f := 242) (fn := Code.f242)); exact rfl; exact rfl; exact rfl; (first | exact rfl); (focus ((repeat' first | exact args_nil | apply args_d | exact toD_d rfl | exact all_nil | apply all_cons | exact rfl); done)); exact hf) | ((with_reducible apply WR.mv); exact rfl; exact rfl) | ((with_reducible apply WR.nil)) | (with_reducible refine andThen_n ?_) | (with_reducible refine W.seq ?_) | (with_reducible refine W.region ?_) | (with_reducible refine W.ret ?_) | ((with_reducible apply Done.f); (intro hh hh2; exact (nomatch hh2)); (focus ((repeat' first | exact all_nil | apply all_cons | exact res_tmp rfl | exact rfl); done)); (focus ((repeat' first | exact all_nil | apply all_cons | exact retOf_s rfl | exact rfl); done)); exact rfl; (focus ((repeat' first | exact outs_nil | apply outs_d | exact rfl); done)))
  all_goals rfl
theorem dec_gives (n : Int) (h : 0 ≤ n ∧ n ≤ 9) : Gives G 230 [ai .i64 n] ⟨[.s (.str [UInt8.ofNat (48 + n.toNat)])], []⟩ := by
  have := dec_item n (by omega)
  unfold itemT at this
  rw [if_neg (by omega)] at this
  exact this
theorem join_snoc (xs : List (List UInt8)) (x sep : List UInt8) (h : xs ≠ []) : Lib.join (xs ++ [x]) sep = Lib.join xs sep ++ sep ++ x := by
  cases xs with
  | nil => exact absurd rfl h
  | cons a r =>
    rw [List.cons_append, Lib.join_cons, Lib.join_cons]
    simp [Lib.joinTail, List.append_assoc]
end Go.DM
