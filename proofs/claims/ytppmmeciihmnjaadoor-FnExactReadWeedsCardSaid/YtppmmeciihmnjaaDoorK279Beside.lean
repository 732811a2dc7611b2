/- A text cut at each byte: both sides. -/
import Derived.Test.YtppmmeciihmnjaaDoorK279Round
import Derived.Test.YtppmmeciihmnjaaDoorK279SplitK
import Derived.Test.YtppmmeciihmnjaaDoorK279Night
import Derived.Test.YtppmmeciihmnjaaDoorK279Loop
set_option linter.unusedSimpArgs false
set_option linter.unusedVariables false
set_option maxHeartbeats 4000000
namespace Go.DM
open Go.IntWalk
/-- A piece begun, and the rest of the pieces. -/
def glue (pre : List UInt8) : List (List UInt8) → List (List UInt8)
  | [] => [pre]
  | p :: ps => (pre ++ p) :: ps
theorem glue_nil (c : UInt8) (s : List UInt8) : glue [] (pieces c s) = pieces c s := by
  cases h : pieces c s with
  | nil => exact absurd h (pieces_ne c s)
  | cons p ps => rfl
theorem glue_hit (c : UInt8) (pre r : List UInt8) : glue pre (pieces c (c :: r)) = pre :: pieces c r := by rw [pieces_hit]; simp [glue]
theorem glue_miss {b c : UInt8} (h : b ≠ c) (pre r : List UInt8) : glue pre (pieces c (b :: r)) = glue (pre ++ [b]) (pieces c r) := by
  obtain ⟨p, ps, h1, h2⟩ := pieces_miss h r
  rw [h2, h1]; simp [glue]
theorem drop_at {s : List UInt8} {k : Nat} (h : k < s.length) : s.drop k = s.getD k 0 :: s.drop (k + 1) := by
  rw [List.drop_eq_getElem_cons h]; simp [List.getD_eq_getElem?_getD, h]
theorem gB_eq {s : List UInt8} {k : Nat} {c : UInt8} (h : gB s k = (c.toNat : Int)) : s.getD k 0 = c := by
  unfold gB at h
  exact UInt8.toNat_inj.1 (by exact_mod_cast h)
theorem gB_ne {s : List UInt8} {k : Nat} {c : UInt8} (h : gB s k ≠ (c.toNat : Int)) : s.getD k 0 ≠ c := fun e => h (by unfold gB; rw [e])
theorem pieces_le (c : UInt8) (s : List UInt8) : (pieces c s).length ≤ s.length + 1 := by
  rw [pieces_count]; have := List.count_le_length (a := c) (l := s); omega
theorem l01Split_gives (s : List UInt8) (c : UInt8) (hs : s.length ≤ 2000000) : Gives G 236 [.d (.s (.str s)), .d (.s (.int .u8 (c.toNat : Nat)))] ⟨[.own (pieces c s).length 1 (encS (pieces c s))], []⟩ := by
  refine Gives.by rfl rfl (W.seq ?_)
  repeat' first | ((with_reducible apply WR.mv); exact rfl; exact rfl) | ((with_reducible apply WR.bsS0); exact rfl; (first | exact rfl)) | ((with_reducible apply WR.nil)) | (with_reducible refine andThen_n ?_) | (with_reducible refine W.seq ?_) | (with_reducible refine W.region ?_) | (with_reducible refine W.block ?_)
  (refine W.loopM [0, 1] [] [25, 26, 33, 34] (fun zz : (List (List UInt8)) × (Nat) × (Nat) => match zz with | (out, f, i) => (s.length - i : Nat)) (fun zz : (List (List UInt8)) × (Nat) × (Nat) => match zz with | (out, f, i) => (f ≤ i ∧ i ≤ s.length ∧ out.length ≤ i ∧ pieces c s = out ++ glue ((s.drop f).take (i - f)) (pieces c (s.drop i)) : Prop)) (fun zz : (List (List UInt8)) × (Nat) × (Nat) => match zz with | (out, f, i) => [(5, .a (.sl 8 0 out.length 1)), (6, .a (.d (.s (.int .i64 (f : Nat))))), (7, .a (.d (.s (.int .i64 (i : Nat)))))]) (fun zz : (List (List UInt8)) × (Nat) × (Nat) => match zz with | (out, f, i) => [(8, .flat false (encS out))]) ([], 0, 0) (⟨by omega, by omega, by simp, by simp [glue_nil]⟩) ⟨rfl, rfl, rfl, trivial⟩ ⟨rfl, trivial⟩ ⟨(by (repeat' first | exact rfl | assumption | (with_reducible apply noPar_set) | ((with_reducible apply noPar_puto); exact rfl) | (with_reducible apply noPar_put) | (with_reducible apply noPar_putv) | (with_reducible apply noPar_kill) | ((with_reducible apply noPar_mix); exact rfl) | ((with_reducible apply noPar_mixT); exact rfl)); done), (by (repeat' first | exact rfl | assumption | (with_reducible apply noPar_set) | ((with_reducible apply noPar_puto); exact rfl) | (with_reducible apply noPar_put) | (with_reducible apply noPar_putv) | (with_reducible apply noPar_kill) | ((with_reducible apply noPar_mix); exact rfl) | ((with_reducible apply noPar_mixT); exact rfl)); done), (by (repeat' first | exact rfl | assumption | (with_reducible apply noPar_set) | ((with_reducible apply noPar_puto); exact rfl) | (with_reducible apply noPar_put) | (with_reducible apply noPar_putv) | (with_reducible apply noPar_kill) | ((with_reducible apply noPar_mix); exact rfl) | ((with_reducible apply noPar_mixT); exact rfl)); done), (by (repeat' first | exact rfl | assumption | (with_reducible apply noPar_set) | ((with_reducible apply noPar_puto); exact rfl) | (with_reducible apply noPar_put) | (with_reducible apply noPar_putv) | (with_reducible apply noPar_kill) | ((with_reducible apply noPar_mix); exact rfl) | ((with_reducible apply noPar_mixT); exact rfl)); done), trivial⟩ ?_)
  rintro ⟨out, f, i⟩ σ hP hN; dsimp only [setL, putL] at hP ⊢; obtain ⟨n25, hN⟩ := hN; obtain ⟨n26, hN⟩ := hN; obtain ⟨n33, hN⟩ := hN; obtain ⟨n34, hN⟩ := hN
  obtain ⟨hf, hi, ho, he⟩ := hP
  by_cases hil : i < s.length
  · repeat' first | ((with_reducible apply WR.mv); exact rfl; exact rfl) | ((with_reducible apply WR.bsS1); exact rfl; exact rfl; (first | assumption)) | ((with_reducible apply WR.nil)) | (with_reducible refine andThen_n ?_) | (with_reducible refine inB_n ?_) | (with_reducible refine W.seq ?_) | (with_reducible refine W.region ?_) | (with_reducible refine W.skip ?_) | (with_reducible refine W.block ?_) | ((with_reducible apply W.condT); exact rfl) | ((with_reducible apply W.condF); exact rfl) | (intro hb; try (exfalso; omega)) | ((with_reducible apply WR.sst); exact rfl; exact rfl; (first | exact bound_str); (first | exact bound_str); exact ⟨by omega, by omega⟩) | ((with_reducible apply WR.apS); exact rfl; exact rfl; exact rfl; exact rfl; (first | omega)) | ((with_reducible apply WR.ad); exact rfl; exact rfl; exact rfl; (first | exact i64_in _ (by omega) | assumption)) | ((with_reducible apply WR.ist); exact rfl; exact rfl; exact rfl; (first | omega)) | ((with_reducible apply WR.lss); exact rfl; exact rfl; exact rfl) | ((with_reducible apply WR.eql); exact rfl; exact rfl; exact rfl) | ((with_reducible apply WR.le); exact rfl; exact rfl)
    · (refine W.nxt ((out ++ [(s.drop f).take (i - f)], i + 1, i + 1)) (by first | omega | (dsimp only; omega)) ?_ ⟨rfl, rfl, rfl, trivial⟩ ⟨rfl, trivial⟩ ⟨rfl, rfl, trivial⟩ trivial ⟨(by (repeat' first | exact rfl | assumption | (with_reducible apply noPar_set) | ((with_reducible apply noPar_puto); exact rfl) | (with_reducible apply noPar_put) | (with_reducible apply noPar_putv) | (with_reducible apply noPar_kill) | ((with_reducible apply noPar_mix); exact rfl) | ((with_reducible apply noPar_mixT); exact rfl)); done), (by (repeat' first | exact rfl | assumption | (with_reducible apply noPar_set) | ((with_reducible apply noPar_puto); exact rfl) | (with_reducible apply noPar_put) | (with_reducible apply noPar_putv) | (with_reducible apply noPar_kill) | ((with_reducible apply noPar_mix); exact rfl) | ((with_reducible apply noPar_mixT); exact rfl)); done), (by (repeat' first | exact rfl | assumption | (with_reducible apply noPar_set) | ((with_reducible apply noPar_puto); exact rfl) | (with_reducible apply noPar_put) | (with_reducible apply noPar_putv) | (with_reducible apply noPar_kill) | ((with_reducible apply noPar_mix); exact rfl) | ((with_reducible apply noPar_mixT); exact rfl)); done), (by (repeat' first | exact rfl | assumption | (with_reducible apply noPar_set) | ((with_reducible apply noPar_puto); exact rfl) | (with_reducible apply noPar_put) | (with_reducible apply noPar_putv) | (with_reducible apply noPar_kill) | ((with_reducible apply noPar_mix); exact rfl) | ((with_reducible apply noPar_mixT); exact rfl)); done), trivial⟩); (try dsimp only)
      refine ⟨by omega, by omega, by simp; omega, ?_⟩
      rw [he, drop_at hil, show s.getD i 0 = c from gB_eq (by simpa using hb), glue_hit]
      simp [glue_nil]
    · (refine W.nxt ((out, f, i + 1)) (by first | omega | (dsimp only; omega)) ?_ ⟨rfl, rfl, rfl, trivial⟩ ⟨rfl, trivial⟩ ⟨rfl, rfl, trivial⟩ trivial ⟨(by (repeat' first | exact rfl | assumption | (with_reducible apply noPar_set) | ((with_reducible apply noPar_puto); exact rfl) | (with_reducible apply noPar_put) | (with_reducible apply noPar_putv) | (with_reducible apply noPar_kill) | ((with_reducible apply noPar_mix); exact rfl) | ((with_reducible apply noPar_mixT); exact rfl)); done), (by (repeat' first | exact rfl | assumption | (with_reducible apply noPar_set) | ((with_reducible apply noPar_puto); exact rfl) | (with_reducible apply noPar_put) | (with_reducible apply noPar_putv) | (with_reducible apply noPar_kill) | ((with_reducible apply noPar_mix); exact rfl) | ((with_reducible apply noPar_mixT); exact rfl)); done), (by (repeat' first | exact rfl | assumption | (with_reducible apply noPar_set) | ((with_reducible apply noPar_puto); exact rfl) | (with_reducible apply noPar_put) | (with_reducible apply noPar_putv) | (with_reducible apply noPar_kill) | ((with_reducible apply noPar_mix); exact rfl) | ((with_reducible apply noPar_mixT); exact rfl)); done), (by (repeat' first | exact rfl | assumption | (with_reducible apply noPar_set) | ((with_reducible apply noPar_puto); exact rfl) | (with_reducible apply noPar_put) | (with_reducible apply noPar_putv) | (with_reducible apply noPar_kill) | ((with_reducible apply noPar_mix); exact rfl) | ((with_reducible apply noPar_mixT); exact rfl)); done), trivial⟩); (try dsimp only)
      refine ⟨by omega, by omega, by omega, ?_⟩
      rw [he, drop_at hil, glue_miss (show s.getD i 0 ≠ c from gB_ne (by simpa using hb))]
      congr 2
      rw [show i + 1 - f = (i - f) + 1 by omega, List.take_add_one, List.getElem?_drop, show f + (i - f) = i by omega, List.getElem?_eq_getElem hil]
      simp [List.getD_eq_getElem?_getD, hil]
  · obtain rfl : i = s.length := by omega
    have e : pieces c s = out ++ [(s.drop f).take (s.length - f)] := by rw [he]; simp [pieces, glue]
    rw [e]
    repeat' first | ((with_reducible apply WR.mv); exact rfl; exact rfl) | ((with_reducible apply WR.bsS1); exact rfl; exact rfl; (first | exact rfl | assumption)) | ((with_reducible apply WR.nil)) | (with_reducible refine andThen_n ?_) | (with_reducible refine andThen_x ?_) | (with_reducible refine inB_x ?_) | (with_reducible refine W.seq ?_) | (with_reducible refine W.region ?_) | (with_reducible refine W.ret ?_) | (with_reducible refine W.exit ?_) | ((with_reducible apply W.condF); exact rfl) | ((with_reducible apply Done.f); (intro hh hh2; exact (nomatch hh2)); (focus ((repeat' first | exact all_nil | apply all_cons | exact res_tmp rfl | exact rfl); done)); (focus ((repeat' first | exact all_nil | apply all_cons | exact retOf_o rfl rfl (by first | exact (encS_length _).trans (Nat.mul_one _).symm | assumption | exact rfl) | exact rfl); done)); exact rfl; (focus ((repeat' first | exact outs_nil | apply outs_d | exact rfl); done))) | (intro hb; try (exfalso; omega)) | ((with_reducible apply WR.sst); exact rfl; exact rfl; (first | exact bound_str | exact rfl); (first | exact bound_str | exact rfl); exact ⟨by omega, by omega⟩) | ((with_reducible apply WR.apS); exact rfl; exact rfl; exact rfl; exact rfl; (first | omega)) | ((with_reducible apply WR.lss); exact rfl; exact rfl; exact rfl) | ((with_reducible apply WR.le); exact rfl; exact rfl)
    rfl
end Go.DM

/- slices.Index over cells. -/
set_option linter.unusedSimpArgs false
set_option linter.unusedVariables false
namespace Go.DM
open Go.IntWalk

end Go.DM

/- Some nights of a mole: the program's side. -/
set_option linter.unusedSimpArgs false
set_option linter.unusedVariables false
namespace Go.DM
open Go.IntWalk
variable {w h : Int} {g : Nat → Int} {cs : List S} {q : Nat → Int} {qs : List S}

/-- Levels, and where the mole is and was. -/
structure Mole where
  q : Nat → Int
  qs : List S
  a : Cel
  b : Cel
def nextQ (q : Nat → Int) (t : Cel) : Nat → Int := if lv q t < 9 then levSet q (10 * t.2.toNat + t.1.toNat) (lv q t + 1) else q
def Mole.next (w h : Int) (g : Nat → Int) (m : Mole) : Mole := ⟨nextQ m.q (goes w h g m.q m.a m.b), nightLev m.q m.qs (goes w h g m.q m.a m.b), goes w h g m.q m.a m.b, m.a⟩
def Mole.after (w h : Int) (g : Nat → Int) (m : Mole) : Nat → Mole
  | 0 => m
  | n + 1 => (m.after w h g n).next w h g
def Mole.path (w h : Int) (g : Nat → Int) (m : Mole) : Nat → List Cel
  | 0 => [m.a]
  | n + 1 => m.path w h g n ++ [(m.after w h g (n + 1)).a]
theorem Mole.path_length (m : Mole) : ∀ n, (m.path w h g n).length = n + 1
  | 0 => rfl
  | n + 1 => by simp [Mole.path, Mole.path_length m n]
structure Mole.Ok (m : Mole) : Prop where
  v : IsLev m.q m.qs
  a : 0 ≤ m.a.1 ∧ m.a.1 < 10 ∧ 0 ≤ m.a.2 ∧ m.a.2 < 10
theorem lowest_mem (q : Nat → Int) (a : Cel) : ∀ l : List Cel, lowest q a l = a ∨ lowest q a l ∈ l
  | [] => .inl rfl
  | c :: r => by
    refine .inr ?_
    have key : ∀ (r : List Cel) (t : Cel), r.foldl (fun t c => if lv q c < lv q t then c else t) t = t ∨ r.foldl (fun t c => if lv q c < lv q t then c else t) t ∈ r := by
      intro r
      induction r with
      | nil => intro t; exact .inl rfl
      | cons d r ih =>
        intro t
        simp only [List.foldl_cons]
        rcases ih (if lv q d < lv q t then d else t) with h | h
        · rw [h]; split
          · exact .inr (List.mem_cons_self ..)
          · exact .inl rfl
        · exact .inr (List.mem_cons_of_mem _ h)
    rcases key r c with h | h
    · simp only [lowest, h]; exact List.mem_cons_self ..
    · simp only [lowest]; exact List.mem_cons_of_mem _ h
theorem goes_in (hs : w ≤ 10 ∧ h ≤ 10) (q : Nat → Int) {a b : Cel} (ha : 0 ≤ a.1 ∧ a.1 < 10 ∧ 0 ≤ a.2 ∧ a.2 < 10) : 0 ≤ (goes w h g q a b).1 ∧ (goes w h g q a b).1 < 10 ∧ 0 ≤ (goes w h g q a b).2 ∧ (goes w h g q a b).2 < 10 := by
  unfold goes
  rcases lowest_mem q a (if 1 < (kept (fun c => ¬ Is w h g 0 c.1 c.2) (Near a.1 a.2)).length then kept (fun c => c.1 = b.1 ∧ c.2 = b.2) (kept (fun c => ¬ Is w h g 0 c.1 c.2) (Near a.1 a.2)) else kept (fun c => ¬ Is w h g 0 c.1 c.2) (Near a.1 a.2)) with e | e
  · simp only [e]; exact ha
  · exact near_in hs e
theorem Mole.Ok.next (hs : w ≤ 10 ∧ h ≤ 10) {m : Mole} (k : m.Ok) : (m.next w h g).Ok := by
  have hin := goes_in (g := g) hs m.q (b := m.b) k.a
  refine ⟨?_, hin⟩
  simp only [Mole.next, nextQ, nightLev]
  generalize goes w h g m.q m.a m.b = t at hin
  have hk : 10 * t.2.toNat + t.1.toNat < 100 := by omega
  have := k.v.cb _ hk
  split
  · rename_i h9; exact k.v.set hk (by simp only [lv] at h9 ⊢; omega)
  · exact k.v
theorem Mole.Ok.after (hs : w ≤ 10 ∧ h ≤ 10) {m : Mole} (k : m.Ok) : ∀ n, (m.after w h g n).Ok
  | 0 => k
  | n + 1 => (k.after hs n).next hs

section
variable {Γ : Nat → Option Fn} {dsts : Nat → Option Nat} {ops : List Oper} {Q : St → Prop} {σ : St} {gd : Option (Nat × Bool)} {l1 l2 l3 l4 : List Nat}
/-- A call that answers twice several cells. -/
theorem WR.ca2 {f e : Nat} {xs : List Opd} {fn : Fn} {as : List Arg} {b b' : List S} (hw : wanted dsts σ.env gd = some true) (hΓ : Γ f = some fn)
    (hn : mutIds fn.muts (xs.map (ev σ.env)) = []) (ha : args σ [] fn.muts (xs.map (ev σ.env)) = some as) (hg : Gives Γ f as ⟨[.agg b, .agg b'], []⟩) (hb : backs σ fn.muts (xs.map (ev σ.env)) [] = some [])
    (k : WR Γ dsts ops Q (set (some e) (.tup [.d (.agg b), .d (.agg b')]) σ)) : WR Γ dsts (⟨some e, .call f xs, gd, l1, l2, l3, l4⟩ :: ops) Q σ := by
  refine WR.call (d := e) (v := .tup [.d (.agg b), .d (.agg b')]) (ps := []) (ns := []) hw rfl rfl hΓ (by rw [hn]; rfl) (by rw [hn]; exact ha) hg hb rfl rfl rfl ?_
  simp only [List.append_nil, List.map_nil, insertAll, kill_nil]
  exact k
end
theorem finish_cs {fn : Fn} {σ : St} {as : List Arg} {t n p t' p' : Nat} {b : Bool} {cs : List S} {l : List Cel} (hr : fn.res = [.cell t n true, .tmp t']) (he : σ.env t = .a (.ptr p 0)) (ho : σ.objs p = some (.flat b cs)) (hl : cs.length = n)
    (he' : σ.env t' = .a (.sl p' 0 l.length 2)) (ho' : σ.objs p' = some (.flat false (encC l))) (hm : outsOf σ 0 as = some []) : finish fn as σ = some ⟨[.agg cs, .own l.length 2 (encC l)], []⟩ := by
  have h1 : retOf as σ (.a (.sl p' 0 l.length 2)) = some (.own l.length 2 (encC l), some p') := by
    simp only [retOf, ho']
    rw [if_pos (by rw [encC_length]; omega), encC_take l _ rfl]
  simp only [finish, hr, all?, resV, he, he', load, ho, loadC_all hl, Option.bind_some, Option.map_some, h1]
  simp [retOf, nodup, hm]

end Go.DM

/- The cells beside a cell, of the reference. -/
set_option linter.unusedSimpArgs false
set_option linter.unusedVariables false
namespace Go.DM
open Go.IntWalk
variable {w h : Int} {g : Nat → Int} {cs : List S} {q : Nat → Int} {qs : List S}

def inside (w h : Int) (l : List Cel) : List Cel := l.filter fun c => decide (Has w h c.1 c.2)
theorem filter_snoc {α : Type} {p : α → Bool} {l : List α} {i : Nat} {c : α} (h : l[i]? = some c) : (l.take (i + 1)).filter p = (l.take i).filter p ++ (if p c then [c] else []) := by
  rw [List.take_add_one, h, List.filter_append]
  congr 1
  simp only [Option.toList_some, List.filter_cons, List.filter_nil]
theorem Near_b {x y : Int} {c : Cel} (h : c ∈ Near x y) : x - 1 ≤ c.1 ∧ c.1 ≤ x + 1 ∧ y - 1 ≤ c.2 ∧ c.2 ≤ y + 1 := by
  simp only [Near, List.mem_cons, List.not_mem_nil, or_false] at h
  rcases h with rfl | rfl | rfl | rfl <;> simp <;> omega
theorem inside_step {w h : Int} {l : List Cel} {i : Nat} (hi : i < l.length) : inside w h (l.take (i + 1)) = inside w h (l.take i) ++ (if Has w h (gC l i).1 (gC l i).2 then [gC l i] else []) := by
  unfold inside; rw [filter_snoc (gC_get hi)]; congr 1; simp only [decide_eq_true_eq]
theorem inside_len {w h : Int} {l : List Cel} : (inside w h l).length ≤ l.length := List.length_filter_le ..
end Go.DM
