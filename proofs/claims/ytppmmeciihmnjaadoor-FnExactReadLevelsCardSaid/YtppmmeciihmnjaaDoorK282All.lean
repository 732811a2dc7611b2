/- strings.Split and number, as given; the pieces of a text are no longer than it. -/
import Derived.Test.YtppmmeciihmnjaaDoorK282Split
import Derived.Test.YtppmmeciihmnjaaDoorK282Text
import Derived.Test.YtppmmeciihmnjaaDoorK282Lawn
import Derived.Test.YtppmmeciihmnjaaDoorK282Night
import Derived.Test.YtppmmeciihmnjaaDoorK282Loop
import Derived.Test.YtppmmeciihmnjaaDoorK282Rule2
import Derived.Test.YtppmmeciihmnjaaDoorK282OkL
import Derived.Test.YtppmmeciihmnjaaDoorK282More
set_option linter.unusedSimpArgs false
set_option linter.unusedVariables false
namespace Go.DM
theorem piece_len {c : UInt8} : ∀ {s p : List UInt8}, p ∈ pieces c s → p.length ≤ s.length
  | [], p, h => by
    simp only [pieces, List.mem_singleton] at h
    rw [h]; exact Nat.le_refl _
  | b :: r, p, h => by
    by_cases e : b = c
    · subst e
      rw [pieces_hit, List.mem_cons] at h
      rcases h with rfl | h
      · simp
      · have := piece_len h; rw [List.length_cons]; omega
    · obtain ⟨q, qs, e1, e2⟩ := pieces_miss e r
      rw [e2, List.mem_cons] at h
      rcases h with rfl | h
      · have := piece_len (c := c) (s := r) (p := q) (by rw [e1]; simp)
        rw [List.length_cons, List.length_cons]; omega
      · have := piece_len (c := c) (s := r) (p := p) (by rw [e1]; exact List.mem_cons_of_mem _ h)
        rw [List.length_cons]; omega
theorem number_gives (s : List UInt8) (hs : s.length ≤ 2000000) : Gives G 314 [.d (.s (.str s))] (ri .i64 (numL s)) :=
  Gives.given rfl rfl (by
    simp only [numberO]
    rw [if_pos hs])
end Go.DM

/- Numbers as text, texts put together: what the library and the reference give. -/
set_option linter.unusedSimpArgs false
set_option linter.unusedVariables false
set_option maxHeartbeats 4000000
namespace Go.DM
open Go.IntWalk
/-- A number from -9 to 9 as text. -/
def itemT (n : Int) : List UInt8 := if n < 0 then [45, UInt8.ofNat (48 + (-n).toNat)] else [UInt8.ofNat (48 + n.toNat)]
theorem itemT_len (n : Int) : (itemT n).length ≤ 2 := by unfold itemT; split <;> simp
theorem format_item (n : Int) (h : -9 ≤ n ∧ n ≤ 9) : Gives G 242 [ai .i64 n, ai .i64 10] ⟨[.s (.str (itemT n))], []⟩ :=
  Gives.given rfl rfl (by
    simp only [formatO, itemT]
    by_cases h0 : n < 0
    · rw [if_neg (by omega), if_pos (by omega), if_pos h0, Lib.itoa, if_pos h0, Lib.decDigits, dif_pos (by omega), show n.natAbs = (-n).toNat by omega]
    · rw [if_pos (by omega), if_neg h0, Lib.decDigits, dif_pos (by omega)])
theorem dec_item (n : Int) (h : -9 ≤ n ∧ n ≤ 9) : Gives G 230 [ai .i64 n] ⟨[.s (.str (itemT n))], []⟩ := by
  have hf := format_item n h
  refine Gives.by rfl rfl (W.seq ?_)
  repeat' first | ((with_reducible apply WR.c_s (f := 242) (fn := Code.f242)); exact rfl; exact rfl; exact rfl; (first | exact rfl); (focus ((repeat' first | exact args_nil | apply args_d | exact toD_d rfl | exact all_nil | apply all_cons | exact rfl); done)); exact hf) | ((with_reducible apply WR.mv); exact rfl; exact rfl) | ((with_reducible apply WR.nil)) | (with_reducible refine andThen_n ?_) | (with_reducible refine W.seq ?_) | (with_reducible refine W.region ?_) | (with_reducible refine W.ret ?_) | ((with_reducible apply Done.f); (intro hh hh2; exact (nomatch hh2)); (focus ((repeat' first | exact all_nil | apply all_cons | exact res_tmp rfl | exact rfl); done)); (focus ((repeat' first | exact all_nil | apply all_cons | exact retOf_s rfl | exact rfl); done)); exact rfl; (focus ((repeat' first | exact outs_nil | apply outs_d | exact rfl); done)))
  all_goals rfl
theorem dec_gives (n : Int) (h : 0 ≤ n ∧ n ≤ 9) : Gives G 230 [ai .i64 n] ⟨[.s (.str [UInt8.ofNat (48 + n.toNat)])], []⟩ := by
  have := dec_item n (by omega)
  unfold itemT at this
  rw [if_neg (by omega)] at this
  exact this
theorem decimal_gives (n : Int) (h : 0 ≤ n ∧ n ≤ 9) : Gives G 241 [ai .i64 n] ⟨[.s (.str [UInt8.ofNat (48 + n.toNat)])], []⟩ := by
  have e : n % 10 = n := by omega
  have e2 : IntKind.u8.wrap (48 + n) = 48 + n := u8_in _ (by omega)
  have e3 : (48 + n).toNat = 48 + n.toNat := by omega
  refine Gives.by rfl rfl (W.seq ?_)
  repeat' first | ((with_reducible apply WR.mv); exact rfl; exact rfl) | ((with_reducible apply WR.nil)) | (with_reducible refine andThen_n ?_) | (with_reducible refine andThen_r ?_) | (with_reducible refine W.seq ?_) | (with_reducible refine W.region ?_) | (with_reducible refine W.ret ?_) | ((with_reducible apply W.condT); exact rfl) | ((with_reducible apply Done.f); (intro hh hh2; exact (nomatch hh2)); (focus ((repeat' first | exact all_nil | apply all_cons | exact res_tmp rfl | exact rfl); done)); (focus ((repeat' first | exact all_nil | apply all_cons | exact retOf_s rfl | exact rfl); done)); exact rfl; (focus ((repeat' first | exact outs_nil | apply outs_d | exact rfl); done))) | (intro hb; try (exfalso; omega)) | ((with_reducible apply WR.ob); exact rfl; exact rfl; exact rfl) | ((with_reducible apply WR.cv); exact rfl; exact rfl; (first | exact i64_in _ (by omega) | exact u8_in _ (by omega))) | ((with_reducible apply WR.remp); exact rfl; exact rfl; exact rfl; omega) | ((with_reducible apply WR.bsI1); exact rfl; exact rfl; (first | exact rfl)) | ((with_reducible apply WR.lss); exact rfl; exact rfl; exact rfl) | ((with_reducible apply WR.ad); exact rfl; exact rfl; exact rfl; (first | exact i64_in _ (by omega) | exact u8_in _ (by omega)))
  simp only [e, List.map_cons, List.map_nil, e3]
theorem join_snoc (xs : List (List UInt8)) (x sep : List UInt8) (h : xs ≠ []) : Lib.join (xs ++ [x]) sep = Lib.join xs sep ++ sep ++ x := by
  cases xs with
  | nil => exact absurd rfl h
  | cons a r =>
    rw [List.cons_append, Lib.join_cons, Lib.join_cons]
    simp [Lib.joinTail, List.append_assoc]
end Go.DM

/- slices.Index over cells. -/
set_option linter.unusedSimpArgs false
set_option linter.unusedVariables false
namespace Go.DM
open Go.IntWalk

end Go.DM

/- Some nights of a mole: the program's side. -/
set_option linter.unusedSimpArgs false
set_option linter.unusedVariables false
namespace Go.DM
open Go.IntWalk
variable {w h : Int} {g : Nat → Int} {cs : List S} {q : Nat → Int} {qs : List S}

/-- Levels, and where the mole is and was. -/
structure Mole where
  q : Nat → Int
  qs : List S
  a : Cel
  b : Cel
def nextQ (q : Nat → Int) (t : Cel) : Nat → Int := if lv q t < 9 then levSet q (10 * t.2.toNat + t.1.toNat) (lv q t + 1) else q
def Mole.next (w h : Int) (g : Nat → Int) (m : Mole) : Mole := ⟨nextQ m.q (goes w h g m.q m.a m.b), nightLev m.q m.qs (goes w h g m.q m.a m.b), goes w h g m.q m.a m.b, m.a⟩
def Mole.after (w h : Int) (g : Nat → Int) (m : Mole) : Nat → Mole
  | 0 => m
  | n + 1 => (m.after w h g n).next w h g
def Mole.path (w h : Int) (g : Nat → Int) (m : Mole) : Nat → List Cel
  | 0 => [m.a]
  | n + 1 => m.path w h g n ++ [(m.after w h g (n + 1)).a]
theorem Mole.path_length (m : Mole) : ∀ n, (m.path w h g n).length = n + 1
  | 0 => rfl
  | n + 1 => by simp [Mole.path, Mole.path_length m n]
structure Mole.Ok (m : Mole) : Prop where
  v : IsLev m.q m.qs
  a : 0 ≤ m.a.1 ∧ m.a.1 < 10 ∧ 0 ≤ m.a.2 ∧ m.a.2 < 10
theorem lowest_mem (q : Nat → Int) (a : Cel) : ∀ l : List Cel, lowest q a l = a ∨ lowest q a l ∈ l
  | [] => .inl rfl
  | c :: r => by
    refine .inr ?_
    have key : ∀ (r : List Cel) (t : Cel), r.foldl (fun t c => if lv q c < lv q t then c else t) t = t ∨ r.foldl (fun t c => if lv q c < lv q t then c else t) t ∈ r := by
      intro r
      induction r with
      | nil => intro t; exact .inl rfl
      | cons d r ih =>
        intro t
        simp only [List.foldl_cons]
        rcases ih (if lv q d < lv q t then d else t) with h | h
        · rw [h]; split
          · exact .inr (List.mem_cons_self ..)
          · exact .inl rfl
        · exact .inr (List.mem_cons_of_mem _ h)
    rcases key r c with h | h
    · simp only [lowest, h]; exact List.mem_cons_self ..
    · simp only [lowest]; exact List.mem_cons_of_mem _ h
theorem goes_in (hs : w ≤ 10 ∧ h ≤ 10) (q : Nat → Int) {a b : Cel} (ha : 0 ≤ a.1 ∧ a.1 < 10 ∧ 0 ≤ a.2 ∧ a.2 < 10) : 0 ≤ (goes w h g q a b).1 ∧ (goes w h g q a b).1 < 10 ∧ 0 ≤ (goes w h g q a b).2 ∧ (goes w h g q a b).2 < 10 := by
  unfold goes
  rcases lowest_mem q a (if 1 < (kept (fun c => ¬ Is w h g 0 c.1 c.2) (Near a.1 a.2)).length then kept (fun c => c.1 = b.1 ∧ c.2 = b.2) (kept (fun c => ¬ Is w h g 0 c.1 c.2) (Near a.1 a.2)) else kept (fun c => ¬ Is w h g 0 c.1 c.2) (Near a.1 a.2)) with e | e
  · simp only [e]; exact ha
  · exact near_in hs e
theorem Mole.Ok.next (hs : w ≤ 10 ∧ h ≤ 10) {m : Mole} (k : m.Ok) : (m.next w h g).Ok := by
  have hin := goes_in (g := g) hs m.q (b := m.b) k.a
  refine ⟨?_, hin⟩
  simp only [Mole.next, nextQ, nightLev]
  generalize goes w h g m.q m.a m.b = t at hin
  have hk : 10 * t.2.toNat + t.1.toNat < 100 := by omega
  have := k.v.cb _ hk
  split
  · rename_i h9; exact k.v.set hk (by simp only [lv] at h9 ⊢; omega)
  · exact k.v
theorem Mole.Ok.after (hs : w ≤ 10 ∧ h ≤ 10) {m : Mole} (k : m.Ok) : ∀ n, (m.after w h g n).Ok
  | 0 => k
  | n + 1 => (k.after hs n).next hs

section
variable {Γ : Nat → Option Fn} {dsts : Nat → Option Nat} {ops : List Oper} {Q : St → Prop} {σ : St} {gd : Option (Nat × Bool)} {l1 l2 l3 l4 : List Nat}
/-- A call that answers twice several cells. -/
theorem WR.ca2 {f e : Nat} {xs : List Opd} {fn : Fn} {as : List Arg} {b b' : List S} (hw : wanted dsts σ.env gd = some true) (hΓ : Γ f = some fn)
    (hn : mutIds fn.muts (xs.map (ev σ.env)) = []) (ha : args σ [] fn.muts (xs.map (ev σ.env)) = some as) (hg : Gives Γ f as ⟨[.agg b, .agg b'], []⟩) (hb : backs σ fn.muts (xs.map (ev σ.env)) [] = some [])
    (k : WR Γ dsts ops Q (set (some e) (.tup [.d (.agg b), .d (.agg b')]) σ)) : WR Γ dsts (⟨some e, .call f xs, gd, l1, l2, l3, l4⟩ :: ops) Q σ := by
  refine WR.call (d := e) (v := .tup [.d (.agg b), .d (.agg b')]) (ps := []) (ns := []) hw rfl rfl hΓ (by rw [hn]; rfl) (by rw [hn]; exact ha) hg hb rfl rfl rfl ?_
  simp only [List.append_nil, List.map_nil, insertAll, kill_nil]
  exact k
end
theorem finish_cs {fn : Fn} {σ : St} {as : List Arg} {t n p t' p' : Nat} {b : Bool} {cs : List S} {l : List Cel} (hr : fn.res = [.cell t n true, .tmp t']) (he : σ.env t = .a (.ptr p 0)) (ho : σ.objs p = some (.flat b cs)) (hl : cs.length = n)
    (he' : σ.env t' = .a (.sl p' 0 l.length 2)) (ho' : σ.objs p' = some (.flat false (encC l))) (hm : outsOf σ 0 as = some []) : finish fn as σ = some ⟨[.agg cs, .own l.length 2 (encC l)], []⟩ := by
  have h1 : retOf as σ (.a (.sl p' 0 l.length 2)) = some (.own l.length 2 (encC l), some p') := by
    simp only [retOf, ho']
    rw [if_pos (by rw [encC_length]; omega), encC_take l _ rfl]
  simp only [finish, hr, all?, resV, he, he', load, ho, loadC_all hl, Option.bind_some, Option.map_some, h1]
  simp [retOf, nodup, hm]

end Go.DM

/- The cells beside a cell, of the reference. -/
set_option linter.unusedSimpArgs false
set_option linter.unusedVariables false
namespace Go.DM
open Go.IntWalk
variable {w h : Int} {g : Nat → Int} {cs : List S} {q : Nat → Int} {qs : List S}

def inside (w h : Int) (l : List Cel) : List Cel := l.filter fun c => decide (Has w h c.1 c.2)
theorem filter_snoc {α : Type} {p : α → Bool} {l : List α} {i : Nat} {c : α} (h : l[i]? = some c) : (l.take (i + 1)).filter p = (l.take i).filter p ++ (if p c then [c] else []) := by
  rw [List.take_add_one, h, List.filter_append]
  congr 1
  simp only [Option.toList_some, List.filter_cons, List.filter_nil]
theorem Near_b {x y : Int} {c : Cel} (h : c ∈ Near x y) : x - 1 ≤ c.1 ∧ c.1 ≤ x + 1 ∧ y - 1 ≤ c.2 ∧ c.2 ≤ y + 1 := by
  simp only [Near, List.mem_cons, List.not_mem_nil, or_false] at h
  rcases h with rfl | rfl | rfl | rfl <;> simp <;> omega
theorem inside_step {w h : Int} {l : List Cel} {i : Nat} (hi : i < l.length) : inside w h (l.take (i + 1)) = inside w h (l.take i) ++ (if Has w h (gC l i).1 (gC l i).2 then [gC l i] else []) := by
  unfold inside; rw [filter_snoc (gC_get hi)]; congr 1; simp only [decide_eq_true_eq]
theorem inside_len {w h : Int} {l : List Cel} : (inside w h l).length ≤ l.length := List.length_filter_le ..
end Go.DM

/- All cells of a lawn, those for which something holds; open cells; codes. -/
set_option linter.unusedSimpArgs false
set_option linter.unusedVariables false
set_option maxHeartbeats 4000000
namespace Go.DM
open Go.IntWalk
variable {w h : Int} {g : Nat → Int} {cs : List S}

def cellsTo (W n : Nat) : List Cel := (List.range n).map fun i => (((i % W : Nat) : Int), ((i / W : Nat) : Int))
/-- All cells, in order. -/
def allC (w h : Int) : List Cel := cellsTo w.toNat (w.toNat * h.toNat)
theorem cellsTo_len (W n : Nat) : (cellsTo W n).length = n := by simp [cellsTo]
theorem cellsTo_succ {W y x : Nat} (hx : x < W) : cellsTo W (y * W + (x + 1)) = cellsTo W (y * W + x) ++ [((x : Int), (y : Int))] := by
  unfold cellsTo
  rw [← Nat.add_assoc, List.range_succ, List.map_append]
  congr 1
  have h1 : (y * W + x) % W = x := by rw [Nat.add_comm, Nat.add_mul_mod_self_right, Nat.mod_eq_of_lt hx]
  have h2 : (y * W + x) / W = y := by rw [Nat.add_comm, Nat.add_mul_div_right _ _ (by omega), Nat.div_eq_of_lt hx, Nat.zero_add]
  simp only [List.map_cons, List.map_nil, h1, h2]
theorem all_gives (l : IsLawn w h g cs) (hs : 0 ≤ w ∧ w ≤ 10 ∧ 0 ≤ h ∧ h ≤ 10) : Gives G 33 [aa cs] ⟨[.own (allC w h).length 2 (encC (allC w h))], []⟩ := by
  obtain ⟨W0, rfl⟩ : ∃ W0 : Nat, w = W0 := ⟨w.toNat, by omega⟩
  obtain ⟨H0, rfl⟩ : ∃ H0 : Nat, h = H0 := ⟨h.toNat, by omega⟩
  refine Gives.by rfl rfl (W.seq ?_)
  repeat' first | ((with_reducible apply WR.mv); exact rfl; exact rfl) | ((with_reducible apply WR.nil)) | (with_reducible refine andThen_n ?_) | (with_reducible refine W.seq ?_) | (with_reducible refine W.region ?_) | (with_reducible refine W.block ?_) | ((with_reducible apply WR.ld); exact rfl; exact rfl; exact rfl; (first | exact lawn_h (by assumption))) | ((with_reducible apply WR.bs0); exact rfl; (first | exact rfl)) | ((with_reducible apply WR.fa); exact rfl; exact rfl) | ((with_reducible apply WR.bx); exact rfl; exact rfl; exact (by first | exact IsLawn.len (by assumption) | exact rfl); (first | exact rfl))
  have hbb : ∀ y x : Nat, y ≤ H0 → x ≤ W0 → (cellsTo W0 (y * W0 + x)).length ≤ 200 := fun y x h1 h2 => by
    rw [cellsTo_len]
    have := Nat.mul_le_mul h1 (Nat.le_refl W0)
    have h3 : H0 * W0 ≤ 10 * 10 := Nat.mul_le_mul (by omega) (by omega)
    omega
  (refine (?_ : W _ (Code.loop _) _ _))
  (refine W.loopM [1, 8] [1] [21, 22] (fun zz : (Nat) × (List Cel) => match zz with | (y, out) => (H0 - y : Nat)) (fun zz : (Nat) × (List Cel) => match zz with | (y, out) => (y ≤ H0 ∧ out = cellsTo W0 (y * W0) : Prop)) (fun zz : (Nat) × (List Cel) => match zz with | (y, out) => [(3, .a (.sl 6 0 out.length 2)), (9, .a (.d (.s (.int .i8 (y : Nat)))))]) (fun zz : (Nat) × (List Cel) => match zz with | (y, out) => [(6, .flat false (encC out))]) (0, []) (⟨by omega, by simp [cellsTo]⟩) ⟨rfl, rfl, trivial⟩ ⟨rfl, trivial⟩ ⟨(by (repeat' first | exact rfl | assumption | (with_reducible apply noPar_set) | ((with_reducible apply noPar_puto); exact rfl) | (with_reducible apply noPar_put) | (with_reducible apply noPar_putv) | (with_reducible apply noPar_kill) | ((with_reducible apply noPar_mix); exact rfl) | ((with_reducible apply noPar_mixT); exact rfl)); done), (by (repeat' first | exact rfl | assumption | (with_reducible apply noPar_set) | ((with_reducible apply noPar_puto); exact rfl) | (with_reducible apply noPar_put) | (with_reducible apply noPar_putv) | (with_reducible apply noPar_kill) | ((with_reducible apply noPar_mix); exact rfl) | ((with_reducible apply noPar_mixT); exact rfl)); done), trivial⟩ ?_)
  rintro ⟨y, out⟩ σ hP hN; dsimp only [setL, putL] at hP ⊢; obtain ⟨n21, hN⟩ := hN; obtain ⟨n22, hN⟩ := hN
  obtain ⟨hy, ho⟩ := hP
  repeat' first | ((with_reducible apply WR.mv); exact rfl; exact rfl) | ((with_reducible apply WR.nil)) | (with_reducible refine andThen_n ?_) | (with_reducible refine andThen_x ?_) | (with_reducible refine inB_x ?_) | (with_reducible refine W.seq ?_) | (with_reducible refine W.region ?_) | (with_reducible refine W.skip ?_) | (with_reducible refine W.ret ?_) | (with_reducible refine W.exit ?_) | (with_reducible refine W.block ?_) | ((with_reducible apply W.condT); exact rfl) | ((with_reducible apply W.condF); exact rfl) | ((with_reducible apply Done.f); (intro hh hh2; exact (nomatch hh2)); (focus ((repeat' first | exact all_nil | apply all_cons | exact res_tmp rfl); done)); (focus ((repeat' first | exact all_nil | apply all_cons | exact retOf_o rfl rfl (by first | exact encC_length _)); done)); exact rfl; (focus ((repeat' first | exact outs_nil | apply outs_d); done))) | (intro hb; try (exfalso; omega)) | ((with_reducible apply WR.lss); exact rfl; exact rfl; exact rfl) | ((with_reducible apply WR.ld); exact rfl; exact rfl; exact rfl; (first | exact lawn_w (by assumption))) | ((with_reducible apply WR.fa); exact rfl; exact rfl)
  · (refine (?_ : W _ (Code.loop _) _ _))
    (refine W.loopM [1, 4, 8, 9, 13] [1] [21, 22] (fun zz : (Nat) × (List Cel) => match zz with | (x, o) => (W0 - x : Nat)) (fun zz : (Nat) × (List Cel) => match zz with | (x, o) => (x ≤ W0 ∧ o = cellsTo W0 (y * W0 + x) : Prop)) (fun zz : (Nat) × (List Cel) => match zz with | (x, o) => [(3, .a (.sl 6 0 o.length 2)), (14, .a (.d (.s (.int .i8 (x : Nat)))))]) (fun zz : (Nat) × (List Cel) => match zz with | (x, o) => [(6, .flat false (encC o))]) (0, out) (⟨by omega, by rw [ho]; rfl⟩) ⟨rfl, rfl, trivial⟩ ⟨rfl, trivial⟩ ⟨(by (repeat' first | exact rfl | assumption | (with_reducible apply noPar_set) | ((with_reducible apply noPar_puto); exact rfl) | (with_reducible apply noPar_put) | (with_reducible apply noPar_putv) | (with_reducible apply noPar_kill) | ((with_reducible apply noPar_mix); exact rfl) | ((with_reducible apply noPar_mixT); exact rfl)); done), (by (repeat' first | exact rfl | assumption | (with_reducible apply noPar_set) | ((with_reducible apply noPar_puto); exact rfl) | (with_reducible apply noPar_put) | (with_reducible apply noPar_putv) | (with_reducible apply noPar_kill) | ((with_reducible apply noPar_mix); exact rfl) | ((with_reducible apply noPar_mixT); exact rfl)); done), trivial⟩ ?_)
    rintro ⟨x, o⟩ σ hP hN; dsimp only [setL, putL] at hP ⊢; obtain ⟨n21, hN⟩ := hN; obtain ⟨n22, hN⟩ := hN
    obtain ⟨hx, ho2⟩ := hP
    have hl := hbb y x (by omega) hx
    rw [← ho2] at hl
    repeat' first | ((with_reducible apply WR.mv); exact rfl; exact rfl) | ((with_reducible apply WR.nil)) | (with_reducible refine andThen_n ?_) | (with_reducible refine andThen_x ?_) | (with_reducible refine inB_n ?_) | (with_reducible refine inB_x ?_) | (with_reducible refine W.seq ?_) | (with_reducible refine W.region ?_) | (with_reducible refine W.skip ?_) | (with_reducible refine W.exit ?_) | (with_reducible refine W.block ?_) | ((with_reducible apply W.condT); exact rfl) | ((with_reducible apply W.condF); exact rfl) | (intro hb; try (exfalso; omega)) | ((with_reducible apply WR.lss); exact rfl; exact rfl; exact rfl) | ((with_reducible apply WR.ad); exact rfl; exact rfl; exact rfl; (first | assumption | exact i8_in _ (by omega))) | ((with_reducible apply WR.bs1); exact rfl; exact rfl; (first | assumption)) | ((with_reducible apply WR.bC); exact rfl; exact rfl; exact rfl) | ((with_reducible apply WR.apC); exact rfl; exact rfl; exact rfl; exact rfl; omega)
    · (refine W.nxt (x + 1, o ++ [((x : Int), (y : Int))]) (by first | omega | (dsimp only; omega)) ?_ ⟨rfl, rfl, trivial⟩ ⟨rfl, trivial⟩ ⟨rfl, rfl, rfl, rfl, rfl, trivial⟩ ⟨rfl, trivial⟩ ⟨(by (repeat' first | exact rfl | assumption | (with_reducible apply noPar_set) | ((with_reducible apply noPar_puto); exact rfl) | (with_reducible apply noPar_put) | (with_reducible apply noPar_putv) | (with_reducible apply noPar_kill) | ((with_reducible apply noPar_mix); exact rfl) | ((with_reducible apply noPar_mixT); exact rfl)); done), (by (repeat' first | exact rfl | assumption | (with_reducible apply noPar_set) | ((with_reducible apply noPar_puto); exact rfl) | (with_reducible apply noPar_put) | (with_reducible apply noPar_putv) | (with_reducible apply noPar_kill) | ((with_reducible apply noPar_mix); exact rfl) | ((with_reducible apply noPar_mixT); exact rfl)); done), trivial⟩); (try dsimp only)
      exact ⟨by omega, by rw [ho2, cellsTo_succ (by omega)]⟩
    · (refine W.nxt (y + 1, o) (by first | omega | (dsimp only; omega)) ?_ ⟨rfl, rfl, trivial⟩ ⟨rfl, trivial⟩ ⟨rfl, rfl, trivial⟩ ⟨rfl, trivial⟩ ⟨(by (repeat' first | exact rfl | assumption | (with_reducible apply noPar_set) | ((with_reducible apply noPar_puto); exact rfl) | (with_reducible apply noPar_put) | (with_reducible apply noPar_putv) | (with_reducible apply noPar_kill) | ((with_reducible apply noPar_mix); exact rfl) | ((with_reducible apply noPar_mixT); exact rfl)); done), (by (repeat' first | exact rfl | assumption | (with_reducible apply noPar_set) | ((with_reducible apply noPar_puto); exact rfl) | (with_reducible apply noPar_put) | (with_reducible apply noPar_putv) | (with_reducible apply noPar_kill) | ((with_reducible apply noPar_mix); exact rfl) | ((with_reducible apply noPar_mixT); exact rfl)); done), trivial⟩); (try dsimp only)
      exact ⟨by omega, by rw [ho2, show x = W0 by omega, Nat.succ_mul]⟩
  · rw [ho, show y = H0 by omega]
    unfold allC
    rw [Int.toNat_natCast, Int.toNat_natCast, Nat.mul_comm]; rfl
theorem allC_len (hs : w ≤ 10 ∧ h ≤ 10) : (allC w h).length ≤ 100 := by
  rw [allC, cellsTo_len]
  have h3 : w.toNat * h.toNat ≤ 10 * 10 := Nat.mul_le_mul (by omega) (by omega)
  omega
theorem allC_mem {c : Cel} (hc : c ∈ allC w h) : Has w h c.1 c.2 := by
  unfold allC cellsTo at hc
  rw [List.mem_map] at hc
  obtain ⟨i, hi, rfl⟩ := hc
  rw [List.mem_range] at hi
  have hW : 0 < w.toNat := Nat.pos_of_ne_zero fun e => by rw [e] at hi; simp at hi
  have h1 := Nat.mod_lt i hW
  have h2 : i / w.toNat < h.toNat := Nat.div_lt_of_lt_mul hi
  generalize i / w.toNat = a at h1 h2 ⊢
  generalize i % w.toNat = b at h1 h2 ⊢
  simp only [Has]
  omega
/-- The number of a cell. -/
abbrev ix (c : Cel) : Nat := 10 * c.2.toNat + c.1.toNat
/-- All cells of a kind. -/
def ofKind (w h : Int) (g : Nat → Int) (k : Int) : List Cel := (allC w h).filter fun c => decide (g (ix c) = k)
/-- There is an open cell. -/
def Opn (w h : Int) (g : Nat → Int) (x y : Int) : Prop := Has w h x y ∧ (g (10 * y.toNat + x.toNat) = 0 ∨ g (10 * y.toNat + x.toNat) = 3)
instance (w h : Int) (g : Nat → Int) (x y : Int) : Decidable (Opn w h g x y) := inferInstanceAs (Decidable (_ ∧ _))
theorem bc_merge {ok fine a : Prop} {d1 : Decidable ok} {d2 : Decidable fine} {d3 : Decidable a} (h : ¬ belowCode ok fine True = 0) : belowCode ok fine True = belowCode ok fine a := by
  by_cases h1 : ok
  · by_cases h2 : fine
    · exact absurd (belowCode_zero.2 ⟨h1, h2, trivial⟩) h
    · simp only [belowCode, if_pos h1, if_neg h2]
  · simp only [belowCode, if_neg h1]
end Go.DM
