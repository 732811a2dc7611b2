/- Numbers as text, texts put together: what the library and the reference give. -/
import Derived.Test.YteghgkdakhelfaaDoorK216Text
import Derived.Test.YteghgkdakhelfaaDoorK216Lawn
import Derived.Test.YteghgkdakhelfaaDoorK216Night
set_option linter.unusedSimpArgs false
set_option linter.unusedVariables false
set_option maxHeartbeats 4000000
namespace Go.DM
open Go.IntWalk
/-- A number from -9 to 9 as text. -/
def itemT (n : Int) : List UInt8 := if n < 0 then [45, UInt8.ofNat (48 + (-n).toNat)] else [UInt8.ofNat (48 + n.toNat)]
theorem itemT_len (n : Int) : (itemT n).length ≤ 2 := by unfold itemT; split <;> simp
theorem format_item (n : Int) (h : -9 ≤ n ∧ n ≤ 9) : Gives G 242 [ai .i64 n, ai .i64 10] ⟨[.s (.str (itemT n))], []⟩ :=
  Gives.given rfl rfl (by
    simp only [formatO, itemT]
    by_cases h0 : n < 0
    · rw [if_neg (by omega), if_pos (by omega), if_pos h0, Lib.itoa, if_pos h0, Lib.decDigits, dif_pos (by omega), show n.natAbs = (-n).toNat by omega]
    · rw [if_pos (by omega), if_neg h0, Lib.decDigits, dif_pos (by omega)])
theorem dec_item (n : Int) (h : -9 ≤ n ∧ n ≤ 9) : Gives G 230 [ai .i64 n] ⟨[.s (.str (itemT n))], []⟩ := by
  have hf := format_item n h
  refine Gives.by rfl rfl (W.seq ?_)
  repeat' first | ((with_reducible apply WR.c_s (f := 242) (fn := Code.f242)); exact rfl; exact rfl; exact rfl; (first | exact rfl); (focus ((repeat' first | exact args_nil | apply args_d | exact toD_d rfl | exact all_nil | apply all_cons | exact rfl); done)); exact hf) | ((with_reducible apply WR.mv); exact rfl; exact rfl) | ((with_reducible apply WR.nil)) | (with_reducible refine andThen_n ?_) | (with_reducible refine W.seq ?_) | (with_reducible refine W.region ?_) | (with_reducible refine W.ret ?_) | ((with_reducible apply Done.f); (intro hh hh2; exact (nomatch hh2)); (focus ((repeat' first | exact all_nil | apply all_cons | exact res_tmp rfl | exact rfl); done)); (focus ((repeat' first | exact all_nil | apply all_cons | exact retOf_s rfl | exact rfl); done)); exact rfl; (focus ((repeat' first | exact outs_nil | apply outs_d | exact rfl); done)))
  all_goals rfl
theorem dec_gives (n : Int) (h : 0 ≤ n ∧ n ≤ 9) : Gives G 230 [ai .i64 n] ⟨[.s (.str [UInt8.ofNat (48 + n.toNat)])], []⟩ := by
  have := dec_item n (by omega)
  unfold itemT at this
  rw [if_neg (by omega)] at this
  exact this
theorem decimal_gives (n : Int) (h : 0 ≤ n ∧ n ≤ 9) : Gives G 241 [ai .i64 n] ⟨[.s (.str [UInt8.ofNat (48 + n.toNat)])], []⟩ := by
  have e : n % 10 = n := by omega
  have e2 : IntKind.u8.wrap (48 + n) = 48 + n := u8_in _ (by omega)
  have e3 : (48 + n).toNat = 48 + n.toNat := by omega
  refine Gives.by rfl rfl (W.seq ?_)
  repeat' first | ((with_reducible apply WR.mv); exact rfl; exact rfl) | ((with_reducible apply WR.nil)) | (with_reducible refine andThen_n ?_) | (with_reducible refine andThen_r ?_) | (with_reducible refine W.seq ?_) | (with_reducible refine W.region ?_) | (with_reducible refine W.ret ?_) | ((with_reducible apply W.condT); exact rfl) | ((with_reducible apply Done.f); (intro hh hh2; exact (nomatch hh2)); (focus ((repeat' first | exact all_nil | apply all_cons | exact res_tmp rfl | exact rfl); done)); (focus ((repeat' first | exact all_nil | apply all_cons | exact retOf_s rfl | exact rfl); done)); exact rfl; (focus ((repeat' first | exact outs_nil | apply outs_d | exact rfl); done))) | (intro hb; try (exfalso; omega)) | ((with_reducible apply WR.ob); exact rfl; exact rfl; exact rfl) | ((with_reducible apply WR.cv); exact rfl; exact rfl; (first | exact i64_in _ (by omega) | exact u8_in _ (by omega))) | ((with_reducible apply WR.remp); exact rfl; exact rfl; exact rfl; omega) | ((with_reducible apply WR.bsI1); exact rfl; exact rfl; (first | exact rfl)) | ((with_reducible apply WR.lss); exact rfl; exact rfl; exact rfl) | ((with_reducible apply WR.ad); exact rfl; exact rfl; exact rfl; (first | exact i64_in _ (by omega) | exact u8_in _ (by omega)))
  simp only [e, List.map_cons, List.map_nil, e3]
theorem join_snoc (xs : List (List UInt8)) (x sep : List UInt8) (h : xs ≠ []) : Lib.join (xs ++ [x]) sep = Lib.join xs sep ++ sep ++ x := by
  cases xs with
  | nil => exact absurd rfl h
  | cons a r =>
    rw [List.cons_append, Lib.join_cons, Lib.join_cons]
    simp [Lib.joinTail, List.append_assoc]
end Go.DM

/- slices.Index over cells. -/
set_option linter.unusedSimpArgs false
set_option linter.unusedVariables false
namespace Go.DM
open Go.IntWalk

end Go.DM
