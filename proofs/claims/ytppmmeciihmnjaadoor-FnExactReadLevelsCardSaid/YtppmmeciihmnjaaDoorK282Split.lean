/- Rows of rounds. -/
import Derived.Test.YtppmmeciihmnjaaDoorK282Text
import Derived.Test.YtppmmeciihmnjaaDoorK282SplitK
set_option linter.unusedSimpArgs false
set_option linter.unusedVariables false
namespace Go.DM
open Go.IntWalk
abbrev Rnd := Int × Bool
def encO : List Rnd → List S
  | [] => []
  | r :: l => .int .i8 r.1 :: .bool r.2 :: encO l
theorem encO_length : ∀ l, (encO l).length = l.length * 2
  | [] => rfl
  | n :: r => by simp only [encO, List.length_cons, encO_length r, Nat.succ_mul]
theorem encO_append : ∀ a b, encO (a ++ b) = encO a ++ encO b
  | [], b => rfl
  | n :: r, b => by simp only [List.cons_append, encO, encO_append r b]
abbrev gO (l : List Rnd) (k : Nat) : Rnd := l.getD k (0, false)
theorem gO_get {l : List Rnd} {k : Nat} (h : k < l.length) : l[k]? = some (gO l k) := by
  simp [gO, List.getD_eq_getElem?_getD, h]
theorem gO_mem {l : List Rnd} {k : Nat} (h : k < l.length) : gO l k ∈ l := List.mem_of_getElem? (gO_get h)
theorem encO_at : ∀ {l : List Rnd} {k : Nat}, k < l.length → (encO l)[k * 2]? = some (.int .i8 (gO l k).1) ∧ (encO l)[k * 2 + 1]? = some (.bool (gO l k).2)
  | [], k, h => by simp at h
  | r :: l, 0, h => ⟨rfl, rfl⟩
  | r :: l, k + 1, h => by
    have := encO_at (l := l) (k := k) (by simpa using h)
    rw [show (k + 1) * 2 = k * 2 + 2 by omega, show k * 2 + 2 + 1 = (k * 2 + 1) + 2 by omega]
    simpa [encO, gO] using this
theorem loadC_two {cs : List S} {k : Nat} {a b : S} (h1 : cs[k]? = some a) (h2 : cs[k + 1]? = some b) : loadC 2 true cs k = some (.a (.d (.agg [a, b]))) := by
  have hb := (List.getElem?_eq_some_iff.1 h2).1
  simp only [loadC, ofCells, av, if_true]
  rw [if_pos (by omega)]
  congr 3
  have : (cs.drop k).take 2 = [a, b] := by
    apply List.ext_getElem?
    intro i
    rw [List.getElem?_take, List.getElem?_drop]
    match i with
    | 0 => simpa using h1
    | 1 => simpa using h2
    | i + 2 => simp; omega
  rw [this]
theorem ldO {l : List Rnd} {k : Nat} (h : k < l.length) : loadC 2 true (encO l) (0 + k * 2) = some (.a (.d (.agg [.int .i8 (gO l k).1, .bool (gO l k).2]))) := by
  rw [Nat.zero_add]; exact loadC_two (encO_at h).1 (encO_at h).2
theorem ldOd {l : List Rnd} {k : Nat} (h : k < l.length) : loadC 2 true (encO l) (k * 2) = some (.a (.d (.agg [.int .i8 (gO l k).1, .bool (gO l k).2]))) := loadC_two (encO_at h).1 (encO_at h).2
theorem ldOx {l : List Rnd} {k : Nat} (h : k < l.length) : loadC 1 false (encO l) (0 + k * 2 + 0) = some (.a (.d (.s (.int .i8 (gO l k).1)))) := loadC_one (by rw [Nat.zero_add, Nat.add_zero]; exact (encO_at h).1)
theorem ldOy {l : List Rnd} {k : Nat} (h : k < l.length) : loadC 1 false (encO l) (0 + k * 2 + 1) = some (.a (.d (.s (.bool (gO l k).2)))) := loadC_one (by rw [Nat.zero_add]; exact (encO_at h).2)
theorem ldOxd {l : List Rnd} {k : Nat} (h : k < l.length) : loadC 1 false (encO l) (k * 2 + 0) = some (.a (.d (.s (.int .i8 (gO l k).1)))) := loadC_one (by rw [Nat.add_zero]; exact (encO_at h).1)
theorem ldOyd {l : List Rnd} {k : Nat} (h : k < l.length) : loadC 1 false (encO l) (k * 2 + 1) = some (.a (.d (.s (.bool (gO l k).2)))) := loadC_one (encO_at h).2
theorem encO_set : ∀ {l : List Rnd} {k : Nat} (r : Rnd), k < l.length → (encO l).take (k * 2) ++ [.int .i8 r.1, .bool r.2] ++ (encO l).drop (k * 2 + 2) = encO (l.set k r)
  | [], k, r, h => by simp at h
  | a :: l, 0, r, h => by simp [encO]
  | a :: l, k + 1, r, h => by
    have := encO_set (l := l) (k := k) r (by simpa using h)
    rw [show (k + 1) * 2 = k * 2 + 2 by omega]
    simp only [encO, List.set_cons_succ]
    rw [← this]
    simp
theorem stO {p : Bool} {l : List Rnd} {k : Nat} {x : Int} {y : Bool} (h : k < l.length) : storeO 2 (.a (.d (.agg [.int .i8 x, .bool y]))) (0 + k * 2) (.flat p (encO l)) = some (.flat p (encO (l.set k (x, y)))) := by
  have h3 := encO_length l
  simp only [storeO, cellsOf, Nat.zero_add]
  rw [if_pos ⟨rfl, by omega⟩, ← encO_set (x, y) h]
theorem encO_rep : ∀ n : Nat, replicate n [.int .i8 0, .bool false] = encO (List.replicate n (0, false))
  | 0 => rfl
  | n + 1 => by
    have ih := encO_rep n
    simp only [replicate, List.replicate_succ, List.flatten_cons] at ih ⊢
    rw [ih]; rfl
theorem apR_dl {σ : St} {d : Option Nat} {p : Nat} {a b : Opd} {l : List Rnd} {x : Int} {y : Bool} (ha : ev σ.env a = .a (.sl p 0 l.length 2)) (ho : σ.objs p = some (.flat false (encO l))) (hb : elems σ.objs 2 (ev σ.env b) = some (1, [.int .i8 x, .bool y])) (h2 : l.length ≤ 100000000) {Γ : Nat → Option Fn} {call : Calls} :
    delta Γ call d σ (.app 2 a b) = some ⟨.a (.sl p 0 (l ++ [(x, y)]).length 2), [p], [(p, .flat false (encO (l ++ [(x, y)])))]⟩ := by
  have hl := encO_length l
  simp only [delta, append, ha, hb, ho]
  rw [if_pos ⟨trivial, by omega, by simp only [big]; omega⟩, encO_append, List.length_append, List.drop_zero, List.take_of_length_le (by omega)]
  rfl
section
variable {dsts : Nat → Option Nat} {ops : List Oper} {Q : St → Prop} {σ : St} {d : Option Nat} {g : Option (Nat × Bool)} {l1 l2 l3 l4 : List Nat} {Γ : Nat → Option Fn}
theorem WR.apR {p : Nat} {a b : Opd} {l : List Rnd} {x : Int} {y : Bool} (hw : wanted dsts σ.env g = some true) (ha : ev σ.env a = .a (.sl p 0 l.length 2)) (ho : σ.objs p = some (.flat false (encO l))) (hb : elems σ.objs 2 (ev σ.env b) = some (1, [.int .i8 x, .bool y])) (h2 : l.length ≤ 100000000)
    (k : WR Γ dsts ops Q (set d (.a (.sl p 0 (l ++ [(x, y)]).length 2)) (put p (.flat false (encO (l ++ [(x, y)]))) (kill [p] σ)))) : WR Γ dsts (⟨d, .app 2 a b, g, l1, l2, l3, l4⟩ :: ops) Q σ :=
  WR.cons ⟨0, step_dl hw (apR_dl ha ho hb h2) (by rw [noPar_one]; intro cs e; rw [ho] at e; cases e)⟩ k
theorem WR.bsR0 {e : Nat} (hw : wanted dsts σ.env g = some true) (hp : noPar σ [e] = true) (k : WR Γ dsts ops Q (set (some e) (.a (.sl e 0 0 2)) (put e (.flat false (encO [])) (kill [e] σ)))) : WR Γ dsts (⟨some e, .bsl 2 0 [.int .i8 0, .bool false] [], g, l1, l2, l3, l4⟩ :: ops) Q σ :=
  WR.mk (d := e) (ob := .flat false (encO [])) hw rfl rfl (by simp [makes, all?, cellsOf, fill, replicate, List.replicate, encO]) hp k
theorem WR.bsR1 {e : Nat} {a0 : Opd} {x : Int} {y : Bool} (hw : wanted dsts σ.env g = some true) (h0 : ev σ.env a0 = .a (.d (.agg [.int .i8 x, .bool y]))) (hp : noPar σ [e] = true) (k : WR Γ dsts ops Q (set (some e) (.a (.sl e 0 1 2)) (put e (.flat false (encO [(x, y)])) (kill [e] σ)))) : WR Γ dsts (⟨some e, .bsl 2 1 [.int .i8 0, .bool false] [(0, a0)], g, l1, l2, l3, l4⟩ :: ops) Q σ :=
  WR.mk (d := e) (ob := .flat false (encO [(x, y)])) hw rfl rfl (by simp [makes, all?, h0, cellsOf, fill, replicate, List.replicate, encO]) hp k
theorem WR.mksR {e n : Nat} {k1 k2 : IntKind} {l c : Opd} (hw : wanted dsts σ.env g = some true) (hl : ev σ.env l = .a (.d (.s (.int k1 (n : Nat))))) (hc : ev σ.env c = .a (.d (.s (.int k2 (n : Nat))))) (hn : n ≤ 2000000) (hp : noPar σ [e] = true)
    (K : WR Γ dsts ops Q (set (some e) (.a (.sl e 0 n 2)) (put e (.flat false (encO (List.replicate n (0, false)))) (kill [e] σ)))) : WR Γ dsts (⟨some e, .mks 2 [.int .i8 0, .bool false] l c, g, l1, l2, l3, l4⟩ :: ops) Q σ := by
  refine WR.mk (d := e) (ob := .flat false (encO (List.replicate n (0, false)))) hw rfl rfl ?_ hp K
  simp only [makes, hl, hc, asI]
  rw [if_pos ⟨by omega, by trivial, by simp only [big]; omega, by trivial⟩, Int.toNat_natCast, encO_rep]
theorem WR.bRn {a b : Opd} {x : Int} {y : Bool} (hw : wanted dsts σ.env g = some true) (ha : ev σ.env a = .a (.d (.s (.int .i8 x)))) (hb : ev σ.env b = .a (.d (.s (.bool y)))) (k : WR Γ dsts ops Q (set d (.a (.d (.agg [.int .i8 x, .bool y]))) σ)) : WR Γ dsts (⟨d, .build [.int .i8 0, .bool false] [(0, 1, a), (1, 1, b)], g, l1, l2, l3, l4⟩ :: ops) Q σ :=
  WR.q hw (by simp [quiet, all?, ha, hb, cellsOf, fill, av]) k
end
end Go.DM

/- A text cut at each byte: both sides. -/
set_option linter.unusedSimpArgs false
set_option linter.unusedVariables false
set_option maxHeartbeats 4000000
namespace Go.DM
open Go.IntWalk
/-- A piece begun, and the rest of the pieces. -/
def glue (pre : List UInt8) : List (List UInt8) → List (List UInt8)
  | [] => [pre]
  | p :: ps => (pre ++ p) :: ps
theorem glue_nil (c : UInt8) (s : List UInt8) : glue [] (pieces c s) = pieces c s := by
  cases h : pieces c s with
  | nil => exact absurd h (pieces_ne c s)
  | cons p ps => rfl
theorem glue_hit (c : UInt8) (pre r : List UInt8) : glue pre (pieces c (c :: r)) = pre :: pieces c r := by rw [pieces_hit]; simp [glue]
theorem glue_miss {b c : UInt8} (h : b ≠ c) (pre r : List UInt8) : glue pre (pieces c (b :: r)) = glue (pre ++ [b]) (pieces c r) := by
  obtain ⟨p, ps, h1, h2⟩ := pieces_miss h r
  rw [h2, h1]; simp [glue]
theorem drop_at {s : List UInt8} {k : Nat} (h : k < s.length) : s.drop k = s.getD k 0 :: s.drop (k + 1) := by
  rw [List.drop_eq_getElem_cons h]; simp [List.getD_eq_getElem?_getD, h]
theorem gB_eq {s : List UInt8} {k : Nat} {c : UInt8} (h : gB s k = (c.toNat : Int)) : s.getD k 0 = c := by
  unfold gB at h
  exact UInt8.toNat_inj.1 (by exact_mod_cast h)
theorem gB_ne {s : List UInt8} {k : Nat} {c : UInt8} (h : gB s k ≠ (c.toNat : Int)) : s.getD k 0 ≠ c := fun e => h (by unfold gB; rw [e])
theorem pieces_le (c : UInt8) (s : List UInt8) : (pieces c s).length ≤ s.length + 1 := by
  rw [pieces_count]; have := List.count_le_length (a := c) (l := s); omega
theorem l01Split_gives (s : List UInt8) (c : UInt8) (hs : s.length ≤ 2000000) : Gives G 236 [.d (.s (.str s)), .d (.s (.int .u8 (c.toNat : Nat)))] ⟨[.own (pieces c s).length 1 (encS (pieces c s))], []⟩ := by
  refine Gives.by rfl rfl (W.seq ?_)
  repeat' first | ((with_reducible apply WR.mv); exact rfl; exact rfl) | ((with_reducible apply WR.bsS0); exact rfl; (first | exact rfl)) | ((with_reducible apply WR.nil)) | (with_reducible refine andThen_n ?_) | (with_reducible refine W.seq ?_) | (with_reducible refine W.region ?_) | (with_reducible refine W.block ?_)
  (refine (?_ : W _ (Code.loop _) _ _))
  (refine W.loopM [0, 1] [] [25, 26, 33, 34] (fun zz : (List (List UInt8)) × (Nat) × (Nat) => match zz with | (out, f, i) => (s.length - i : Nat)) (fun zz : (List (List UInt8)) × (Nat) × (Nat) => match zz with | (out, f, i) => (f ≤ i ∧ i ≤ s.length ∧ out.length ≤ i ∧ pieces c s = out ++ glue ((s.drop f).take (i - f)) (pieces c (s.drop i)) : Prop)) (fun zz : (List (List UInt8)) × (Nat) × (Nat) => match zz with | (out, f, i) => [(5, .a (.sl 8 0 out.length 1)), (6, .a (.d (.s (.int .i64 (f : Nat))))), (7, .a (.d (.s (.int .i64 (i : Nat)))))]) (fun zz : (List (List UInt8)) × (Nat) × (Nat) => match zz with | (out, f, i) => [(8, .flat false (encS out))]) ([], 0, 0) (⟨by omega, by omega, by simp, by simp [glue_nil]⟩) ⟨rfl, rfl, rfl, trivial⟩ ⟨rfl, trivial⟩ ⟨(by (repeat' first | exact rfl | assumption | (with_reducible apply noPar_set) | ((with_reducible apply noPar_puto); exact rfl) | (with_reducible apply noPar_put) | (with_reducible apply noPar_putv) | (with_reducible apply noPar_kill) | ((with_reducible apply noPar_mix); exact rfl) | ((with_reducible apply noPar_mixT); exact rfl)); done), (by (repeat' first | exact rfl | assumption | (with_reducible apply noPar_set) | ((with_reducible apply noPar_puto); exact rfl) | (with_reducible apply noPar_put) | (with_reducible apply noPar_putv) | (with_reducible apply noPar_kill) | ((with_reducible apply noPar_mix); exact rfl) | ((with_reducible apply noPar_mixT); exact rfl)); done), (by (repeat' first | exact rfl | assumption | (with_reducible apply noPar_set) | ((with_reducible apply noPar_puto); exact rfl) | (with_reducible apply noPar_put) | (with_reducible apply noPar_putv) | (with_reducible apply noPar_kill) | ((with_reducible apply noPar_mix); exact rfl) | ((with_reducible apply noPar_mixT); exact rfl)); done), (by (repeat' first | exact rfl | assumption | (with_reducible apply noPar_set) | ((with_reducible apply noPar_puto); exact rfl) | (with_reducible apply noPar_put) | (with_reducible apply noPar_putv) | (with_reducible apply noPar_kill) | ((with_reducible apply noPar_mix); exact rfl) | ((with_reducible apply noPar_mixT); exact rfl)); done), trivial⟩ ?_)
  rintro ⟨out, f, i⟩ σ hP hN; dsimp only [setL, putL] at hP ⊢; obtain ⟨n25, hN⟩ := hN; obtain ⟨n26, hN⟩ := hN; obtain ⟨n33, hN⟩ := hN; obtain ⟨n34, hN⟩ := hN
  obtain ⟨hf, hi, ho, he⟩ := hP
  by_cases hil : i < s.length
  · repeat' first | ((with_reducible apply WR.mv); exact rfl; exact rfl) | ((with_reducible apply WR.bsS1); exact rfl; exact rfl; (first | assumption)) | ((with_reducible apply WR.nil)) | (with_reducible refine andThen_n ?_) | (with_reducible refine inB_n ?_) | (with_reducible refine W.seq ?_) | (with_reducible refine W.region ?_) | (with_reducible refine W.skip ?_) | (with_reducible refine W.block ?_) | ((with_reducible apply W.condT); exact rfl) | ((with_reducible apply W.condF); exact rfl) | (intro hb; try (exfalso; omega)) | ((with_reducible apply WR.sst); exact rfl; exact rfl; (first | exact bound_str); (first | exact bound_str); exact ⟨by omega, by omega⟩) | ((with_reducible apply WR.apS); exact rfl; exact rfl; exact rfl; exact rfl; (first | omega)) | ((with_reducible apply WR.ad); exact rfl; exact rfl; exact rfl; (first | exact i64_in _ (by omega) | assumption)) | ((with_reducible apply WR.ist); exact rfl; exact rfl; exact rfl; (first | omega)) | ((with_reducible apply WR.lss); exact rfl; exact rfl; exact rfl) | ((with_reducible apply WR.eql); exact rfl; exact rfl; exact rfl) | ((with_reducible apply WR.le); exact rfl; exact rfl)
    · (refine W.nxt ((out ++ [(s.drop f).take (i - f)], i + 1, i + 1)) (by first | omega | (dsimp only; omega)) ?_ ⟨rfl, rfl, rfl, trivial⟩ ⟨rfl, trivial⟩ ⟨rfl, rfl, trivial⟩ trivial ⟨(by (repeat' first | exact rfl | assumption | (with_reducible apply noPar_set) | ((with_reducible apply noPar_puto); exact rfl) | (with_reducible apply noPar_put) | (with_reducible apply noPar_putv) | (with_reducible apply noPar_kill) | ((with_reducible apply noPar_mix); exact rfl) | ((with_reducible apply noPar_mixT); exact rfl)); done), (by (repeat' first | exact rfl | assumption | (with_reducible apply noPar_set) | ((with_reducible apply noPar_puto); exact rfl) | (with_reducible apply noPar_put) | (with_reducible apply noPar_putv) | (with_reducible apply noPar_kill) | ((with_reducible apply noPar_mix); exact rfl) | ((with_reducible apply noPar_mixT); exact rfl)); done), (by (repeat' first | exact rfl | assumption | (with_reducible apply noPar_set) | ((with_reducible apply noPar_puto); exact rfl) | (with_reducible apply noPar_put) | (with_reducible apply noPar_putv) | (with_reducible apply noPar_kill) | ((with_reducible apply noPar_mix); exact rfl) | ((with_reducible apply noPar_mixT); exact rfl)); done), (by (repeat' first | exact rfl | assumption | (with_reducible apply noPar_set) | ((with_reducible apply noPar_puto); exact rfl) | (with_reducible apply noPar_put) | (with_reducible apply noPar_putv) | (with_reducible apply noPar_kill) | ((with_reducible apply noPar_mix); exact rfl) | ((with_reducible apply noPar_mixT); exact rfl)); done), trivial⟩); (try dsimp only)
      refine ⟨by omega, by omega, by simp; omega, ?_⟩
      rw [he, drop_at hil, show s.getD i 0 = c from gB_eq (by simpa using hb), glue_hit]
      simp [glue_nil]
    · (refine W.nxt ((out, f, i + 1)) (by first | omega | (dsimp only; omega)) ?_ ⟨rfl, rfl, rfl, trivial⟩ ⟨rfl, trivial⟩ ⟨rfl, rfl, trivial⟩ trivial ⟨(by (repeat' first | exact rfl | assumption | (with_reducible apply noPar_set) | ((with_reducible apply noPar_puto); exact rfl) | (with_reducible apply noPar_put) | (with_reducible apply noPar_putv) | (with_reducible apply noPar_kill) | ((with_reducible apply noPar_mix); exact rfl) | ((with_reducible apply noPar_mixT); exact rfl)); done), (by (repeat' first | exact rfl | assumption | (with_reducible apply noPar_set) | ((with_reducible apply noPar_puto); exact rfl) | (with_reducible apply noPar_put) | (with_reducible apply noPar_putv) | (with_reducible apply noPar_kill) | ((with_reducible apply noPar_mix); exact rfl) | ((with_reducible apply noPar_mixT); exact rfl)); done), (by (repeat' first | exact rfl | assumption | (with_reducible apply noPar_set) | ((with_reducible apply noPar_puto); exact rfl) | (with_reducible apply noPar_put) | (with_reducible apply noPar_putv) | (with_reducible apply noPar_kill) | ((with_reducible apply noPar_mix); exact rfl) | ((with_reducible apply noPar_mixT); exact rfl)); done), (by (repeat' first | exact rfl | assumption | (with_reducible apply noPar_set) | ((with_reducible apply noPar_puto); exact rfl) | (with_reducible apply noPar_put) | (with_reducible apply noPar_putv) | (with_reducible apply noPar_kill) | ((with_reducible apply noPar_mix); exact rfl) | ((with_reducible apply noPar_mixT); exact rfl)); done), trivial⟩); (try dsimp only)
      refine ⟨by omega, by omega, by omega, ?_⟩
      rw [he, drop_at hil, glue_miss (show s.getD i 0 ≠ c from gB_ne (by simpa using hb))]
      congr 2
      rw [show i + 1 - f = (i - f) + 1 by omega, List.take_add_one, List.getElem?_drop, show f + (i - f) = i by omega, List.getElem?_eq_getElem hil]
      simp [List.getD_eq_getElem?_getD, hil]
  · obtain rfl : i = s.length := by omega
    have e : pieces c s = out ++ [(s.drop f).take (s.length - f)] := by rw [he]; simp [pieces, glue]
    rw [e]
    repeat' first | ((with_reducible apply WR.mv); exact rfl; exact rfl) | ((with_reducible apply WR.bsS1); exact rfl; exact rfl; (first | exact rfl | assumption)) | ((with_reducible apply WR.nil)) | (with_reducible refine andThen_n ?_) | (with_reducible refine andThen_x ?_) | (with_reducible refine inB_x ?_) | (with_reducible refine W.seq ?_) | (with_reducible refine W.region ?_) | (with_reducible refine W.ret ?_) | (with_reducible refine W.exit ?_) | ((with_reducible apply W.condF); exact rfl) | ((with_reducible apply Done.f); (intro hh hh2; exact (nomatch hh2)); (focus ((repeat' first | exact all_nil | apply all_cons | exact res_tmp rfl | exact rfl); done)); (focus ((repeat' first | exact all_nil | apply all_cons | exact retOf_o rfl rfl (by first | exact (encS_length _).trans (Nat.mul_one _).symm | assumption | exact rfl) | exact rfl); done)); exact rfl; (focus ((repeat' first | exact outs_nil | apply outs_d | exact rfl); done))) | (intro hb; try (exfalso; omega)) | ((with_reducible apply WR.sst); exact rfl; exact rfl; (first | exact bound_str | exact rfl); (first | exact bound_str | exact rfl); exact ⟨by omega, by omega⟩) | ((with_reducible apply WR.apS); exact rfl; exact rfl; exact rfl; exact rfl; (first | omega)) | ((with_reducible apply WR.lss); exact rfl; exact rfl; exact rfl) | ((with_reducible apply WR.le); exact rfl; exact rfl)
    rfl
end Go.DM
