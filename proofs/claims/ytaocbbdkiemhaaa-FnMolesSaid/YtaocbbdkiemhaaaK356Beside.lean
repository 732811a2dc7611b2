/- Some nights of a mole: the program's side. -/
import Derived.Test.YtaocbbdkiemhaaaK356Index
import Derived.Test.YtaocbbdkiemhaaaK356Loop
set_option linter.unusedSimpArgs false
set_option linter.unusedVariables false
namespace Go.DM
set_option linter.unusedSectionVars false
variable [Tok]
open Go.IntWalk
variable {w h : Int} {g : Nat → Int} {cs : List S} {q : Nat → Int} {qs : List S}

/-- Levels, and where the mole is and was. -/
structure Mole where
  q : Nat → Int
  qs : List S
  a : Cel
  b : Cel
def nextQ (q : Nat → Int) (t : Cel) : Nat → Int := if lv q t < 9 then levSet q (10 * t.2.toNat + t.1.toNat) (lv q t + 1) else q
def Mole.next (w h : Int) (g : Nat → Int) (m : Mole) : Mole := ⟨nextQ m.q (goes w h g m.q m.a m.b), nightLev m.q m.qs (goes w h g m.q m.a m.b), goes w h g m.q m.a m.b, m.a⟩
def Mole.after (w h : Int) (g : Nat → Int) (m : Mole) : Nat → Mole
  | 0 => m
  | n + 1 => (m.after w h g n).next w h g
def Mole.path (w h : Int) (g : Nat → Int) (m : Mole) : Nat → List Cel
  | 0 => [m.a]
  | n + 1 => m.path w h g n ++ [(m.after w h g (n + 1)).a]
theorem Mole.path_length (m : Mole) : ∀ n, (m.path w h g n).length = n + 1
  | 0 => rfl
  | n + 1 => by simp [Mole.path, Mole.path_length m n]
structure Mole.Ok (m : Mole) : Prop where
  v : IsLev m.q m.qs
  a : 0 ≤ m.a.1 ∧ m.a.1 < 10 ∧ 0 ≤ m.a.2 ∧ m.a.2 < 10
theorem lowest_mem (q : Nat → Int) (a : Cel) : ∀ l : List Cel, lowest q a l = a ∨ lowest q a l ∈ l
  | [] => .inl rfl
  | c :: r => by
    refine .inr ?_
    have key : ∀ (r : List Cel) (t : Cel), r.foldl (fun t c => if lv q c < lv q t then c else t) t = t ∨ r.foldl (fun t c => if lv q c < lv q t then c else t) t ∈ r := by
      intro r
      induction r with
      | nil => intro t; exact .inl rfl
      | cons d r ih =>
        intro t
        simp only [List.foldl_cons]
        rcases ih (if lv q d < lv q t then d else t) with h | h
        · rw [h]; split
          · exact .inr (List.mem_cons_self ..)
          · exact .inl rfl
        · exact .inr (List.mem_cons_of_mem _ h)
    rcases key r c with h | h
    · simp only [lowest, h]; exact List.mem_cons_self ..
    · simp only [lowest]; exact List.mem_cons_of_mem _ h
theorem goes_in (hs : w ≤ 10 ∧ h ≤ 10) (q : Nat → Int) {a b : Cel} (ha : 0 ≤ a.1 ∧ a.1 < 10 ∧ 0 ≤ a.2 ∧ a.2 < 10) : 0 ≤ (goes w h g q a b).1 ∧ (goes w h g q a b).1 < 10 ∧ 0 ≤ (goes w h g q a b).2 ∧ (goes w h g q a b).2 < 10 := by
  unfold goes
  rcases lowest_mem q a (if 1 < (kept (fun c => ¬ Is w h g 0 c.1 c.2) (Near a.1 a.2)).length then kept (fun c => c.1 = b.1 ∧ c.2 = b.2) (kept (fun c => ¬ Is w h g 0 c.1 c.2) (Near a.1 a.2)) else kept (fun c => ¬ Is w h g 0 c.1 c.2) (Near a.1 a.2)) with e | e
  · simp only [e]; exact ha
  · exact near_in hs e
theorem Mole.Ok.next (hs : w ≤ 10 ∧ h ≤ 10) {m : Mole} (k : m.Ok) : (m.next w h g).Ok := by
  have hin := goes_in (g := g) hs m.q (b := m.b) k.a
  refine ⟨?_, hin⟩
  simp only [Mole.next, nextQ, nightLev]
  generalize goes w h g m.q m.a m.b = t at hin
  have hk : 10 * t.2.toNat + t.1.toNat < 100 := by omega
  have := k.v.cb _ hk
  split
  · rename_i h9; exact k.v.set hk (by simp only [lv] at h9 ⊢; omega)
  · exact k.v
theorem Mole.Ok.after (hs : w ≤ 10 ∧ h ≤ 10) {m : Mole} (k : m.Ok) : ∀ n, (m.after w h g n).Ok
  | 0 => k
  | n + 1 => (k.after hs n).next hs

section
variable {Γ : Nat → Option Fn} {dsts : Nat → Option Nat} {ops : List Oper} {Q : St → Prop} {σ : St} {gd : Option (Nat × Bool)} {l1 l2 l3 l4 : List Nat}
/-- A call that answers twice several cells. -/
theorem WR.ca2 {f e : Nat} {xs : List Opd} {fn : Fn} {as : List Arg} {b b' : List S} (hw : wanted dsts σ.env gd = some true) (hΓ : Γ f = some fn)
    (hn : mutIds fn.muts (xs.map (ev σ.env)) = []) (ha : args σ [] fn.muts (xs.map (ev σ.env)) = some as) (hg : Gives Γ f as ⟨[.agg b, .agg b'], []⟩) (hb : backs σ fn.muts (xs.map (ev σ.env)) [] = some [])
    (k : WR Γ dsts ops Q (set (some e) (.tup [.d (.agg b), .d (.agg b')]) σ)) : WR Γ dsts (⟨some e, .call f xs, gd, l1, l2, l3, l4⟩ :: ops) Q σ := by
  refine WR.call (d := e) (v := .tup [.d (.agg b), .d (.agg b')]) (ps := []) (ns := []) hw rfl rfl hΓ (by rw [hn]; rfl) (by rw [hn]; exact ha) hg hb rfl rfl rfl ?_
  simp only [List.append_nil, List.map_nil, insertAll, kill_nil]
  exact k
end
theorem finish_cs {fn : Fn} {σ : St} {as : List Arg} {t n p t' p' : Nat} {b : Bool} {cs : List S} {l : List Cel} (hr : fn.res = [.cell t n true, .tmp t']) (he : σ.env t = .a (.ptr p 0)) (ho : σ.objs p = some (.flat b cs)) (hl : cs.length = n)
    (he' : σ.env t' = .a (.sl p' 0 l.length 2)) (ho' : σ.objs p' = some (.flat false (encC l))) (hm : outsOf σ 0 as = some []) : finish fn as σ = some ⟨[.agg cs, .own l.length 2 (encC l)], []⟩ := by
  have h1 : retOf as σ (.a (.sl p' 0 l.length 2)) = some (.own l.length 2 (encC l), some p') := by
    simp only [retOf, ho']
    rw [if_pos (by rw [encC_length]; omega), encC_take l _ rfl]
  simp only [finish, hr, all?, resV, he, he', load, ho, loadC_all hl, Option.bind_some, Option.map_some, h1]
  simp [retOf, nodup, hm]

theorem nights_gives (l : IsLawn w h g cs) (hs : w ≤ 10 ∧ h ≤ 10) (v : IsLev q qs) (a : Cel) (ha : 0 ≤ a.1 ∧ a.1 < 10 ∧ 0 ≤ a.2 ∧ a.2 < 10) (N : Nat) (hN : N ≤ 60) :
    Gives G 26 [aa cs, aa qs, ac a.1 a.2, ai .i64 N] ⟨[.agg ((Mole.mk q qs a a).after w h g N).qs, .own (((Mole.mk q qs a a).path w h g N)).length 2 (encC ((Mole.mk q qs a a).path w h g N))], []⟩ := by
  have k0 : (Mole.mk q qs a a).Ok := ⟨v, ha⟩
  generalize hm0 : Mole.mk q qs a a = m0 at k0 ⊢
  have hq0 : m0.qs = qs := by rw [← hm0]
  have ha0 : m0.a = a := by rw [← hm0]
  have hb0 : m0.b = a := by rw [← hm0]
  refine Gives.by rfl rfl (W.seq ?_)
  repeat' first | ((with_reducible apply WR.mv); exact rfl; exact rfl) | ((with_reducible apply WR.bx); exact rfl; exact rfl; exact IsLawn.len (by assumption); (first | exact rfl)) | ((with_reducible apply WR.bx); exact rfl; exact rfl; exact IsLev.len (by assumption); (first | exact rfl)) | ((with_reducible apply WR.bo); exact rfl; exact rfl; (first | exact rfl)) | ((with_reducible apply WR.nil)) | (with_reducible refine andThen_n ?_) | (with_reducible refine W.seq ?_) | (with_reducible refine W.region ?_) | (with_reducible refine W.block ?_) | ((with_reducible apply WH.lx); exact rfl; exact rfl; exact rfl) | ((with_reducible apply WH.nil)) | (with_reducible refine W.draw ?_) | ((with_reducible apply WR.al); exact rfl; (first | exact rfl)) | ((with_reducible apply WH.mv); exact rfl; exact rfl; exact rfl) | ((with_reducible apply WH.bu); exact rfl; exact rfl) | ((with_reducible apply WH.al); exact rfl; (first | exact rfl); exact rfl; exact rfl) | ((with_reducible apply WH.st); exact rfl; exact rfl; exact rfl; exact rfl; exact rfl; exact rfl) | ((with_reducible apply WH.bs); exact rfl; exact rfl; (first | exact rfl); exact rfl; exact rfl; exact rfl)
  refine W.loopI (fun n σ => ∃ i : Nat, n = N - i ∧ i ≤ N ∧ σ.env 18 = .a (.d (.s (.int .i64 i))) ∧ σ.env 17 = .a (.d (.s (.int .i64 N))) ∧ σ.env 4 = .a (.ptr 4 0) ∧ σ.env 5 = .a (.ptr 5 0) ∧ σ.env 8 = .a (.ptr 8 0) ∧ σ.env 10 = .a (.ptr 10 0) ∧ σ.env 11 = .a (.sl 16 0 (m0.path w h g i).length 2) ∧
      σ.objs 4 = some (.flat false cs) ∧ σ.objs 5 = some (.flat false (m0.after w h g i).qs) ∧ σ.objs 8 = some (.flat false (List.replicate 100 (.int .i8 0))) ∧ σ.objs 10 = some (.flat false (moleS (m0.after w h g i).a (m0.after w h g i).b)) ∧ σ.objs 16 = some (.flat false (encC (m0.path w h g i))) ∧ noPar σ [30] = true)
    ?_ _ _ ⟨0, rfl, by omega, rfl, rfl, rfl, rfl, rfl, rfl, rfl, rfl, by rw [show (m0.after w h g 0).qs = qs from hq0]; rfl, rfl, by rw [show (m0.after w h g 0).a = a from ha0, show (m0.after w h g 0).b = a from hb0]; rfl, by rw [show m0.path w h g 0 = [a] from by simp [Mole.path, ha0]]; rfl, rfl⟩
  rintro n σ ⟨i, rfl, hi, e18, e17, e4, e5, e8, e10, e11, o4, o5, o8, o10, o16, n30⟩
  rw [← set_self e18, ← set_self e17, ← set_self e4, ← set_self e5, ← set_self e8, ← set_self e10, ← set_self e11, ← put_self o4, ← put_self o5, ← put_self o8, ← put_self o10, ← put_self o16]
  have ki := k0.after (g := g) hs i
  have vi := ki.v
  have hpl := m0.path_length (w := w) (h := h) (g := g) i
  repeat' first | ((with_reducible apply WR.mv); exact rfl; exact rfl) | ((with_reducible apply WR.ld); exact rfl; exact rfl; exact rfl; (first | exact loadC_all (IsLawn.len (by assumption)) | exact loadC_all (IsLev.len (by assumption)))) | ((with_reducible apply WR.lx); exact rfl; exact rfl) | ((with_reducible apply WR.nil)) | (with_reducible refine andThen_n ?_) | (with_reducible refine andThen_x ?_) | (with_reducible refine inB_x ?_) | (with_reducible refine W.seq ?_) | (with_reducible refine W.region ?_) | (with_reducible refine W.skip ?_) | (with_reducible refine W.exit ?_) | (with_reducible refine W.block ?_) | ((with_reducible apply W.condT); exact rfl) | ((with_reducible apply W.condF); exact rfl) | (intro hb; try (exfalso; omega)) | ((with_reducible apply WR.lss); exact rfl; exact rfl; exact rfl)
  · (with_reducible apply WR.ca2); exact rfl; exact rfl; exact rfl; exact rfl; exact night_gives l vi hs _ _ ki.a; exact rfl
    have k1 := (k0.after (g := g) hs (i + 1)).v
    repeat' first | ((with_reducible apply WR.mvt); exact rfl; exact rfl) | ((with_reducible apply WR.ex); exact rfl; exact rfl)
    (with_reducible apply WR.st); exact rfl; exact rfl; exact rfl; exact storeAll k1.len vi.len
    repeat' first | ((with_reducible apply WR.mv); exact rfl; exact rfl) | ((with_reducible apply WR.lx); exact rfl; exact rfl) | ((with_reducible apply WR.st); exact rfl; exact rfl; exact rfl; exact rfl) | ((with_reducible apply WR.nil)) | (with_reducible refine andThen_n ?_) | (with_reducible refine W.region ?_) | ((with_reducible apply WR.bs); exact rfl; exact rfl; (first | assumption)) | ((with_reducible apply WR.fa); exact rfl; exact rfl)
    (with_reducible apply WR.ap); exact rfl; exact rfl; exact rfl; exact rfl; exact (by rw [encC_length]; omega); exact (by rw [hpl]; simp only [big]; omega); exact rfl
    repeat' first | ((with_reducible apply WR.mv); exact rfl; exact rfl) | ((with_reducible apply WR.nil)) | (with_reducible refine andThen_n ?_) | (with_reducible refine inB_n ?_) | (with_reducible refine W.region ?_) | ((with_reducible apply WR.ad); exact rfl; exact rfl; exact rfl; (first | exact i64_in _ (by omega)))
    have p1 : (m0.path w h g (i + 1)).length = (m0.path w h g i).length + 1 := by simp [Mole.path]
    have p2 : encC (m0.path w h g (i + 1)) = ((encC (m0.path w h g i)).drop 0).take ((m0.path w h g i).length * 2) ++ [.int .i8 (m0.after w h g (i + 1)).a.1, .int .i8 (m0.after w h g (i + 1)).a.2] := by
      rw [encC_take _ _ rfl]; simp only [Mole.path, encC_append]; rfl
    exact ⟨_, by omega, i + 1, rfl, by omega, rfl, rfl, rfl, rfl, rfl, rfl, by rw [p1]; rfl, rfl, rfl, rfl, rfl, by rw [p2]; rfl, rfl⟩
  · have hiN : i = N := by omega
    subst hiN
    repeat' first | ((with_reducible apply WR.mv); exact rfl; exact rfl)
    (with_reducible apply WR.st); exact rfl; exact rfl; exact rfl; exact storeAll vi.len rfl
    repeat' first | ((with_reducible apply WR.mv); exact rfl; exact rfl) | ((with_reducible apply WR.nil)) | (with_reducible refine andThen_n ?_) | (with_reducible refine W.ret ?_)
    exact Done.r (finish_cs rfl rfl rfl vi.len rfl rfl rfl) rfl
end Go.DM

/- The cells beside a cell, of the reference. -/
set_option linter.unusedSimpArgs false
set_option linter.unusedVariables false
namespace Go.DM
set_option linter.unusedSectionVars false
variable [Tok]
open Go.IntWalk
variable {w h : Int} {g : Nat → Int} {cs : List S} {q : Nat → Int} {qs : List S}

def inside (w h : Int) (l : List Cel) : List Cel := l.filter fun c => decide (Has w h c.1 c.2)
theorem filter_snoc {α : Type} {p : α → Bool} {l : List α} {i : Nat} {c : α} (h : l[i]? = some c) : (l.take (i + 1)).filter p = (l.take i).filter p ++ (if p c then [c] else []) := by
  rw [List.take_add_one, h, List.filter_append]
  congr 1
  simp only [Option.toList_some, List.filter_cons, List.filter_nil]
theorem Near_b {x y : Int} {c : Cel} (h : c ∈ Near x y) : x - 1 ≤ c.1 ∧ c.1 ≤ x + 1 ∧ y - 1 ≤ c.2 ∧ c.2 ≤ y + 1 := by
  simp only [Near, List.mem_cons, List.not_mem_nil, or_false] at h
  rcases h with rfl | rfl | rfl | rfl <;> simp <;> omega
theorem inside_step {w h : Int} {l : List Cel} {i : Nat} (hi : i < l.length) : inside w h (l.take (i + 1)) = inside w h (l.take i) ++ (if Has w h (gC l i).1 (gC l i).2 then [gC l i] else []) := by
  unfold inside; rw [filter_snoc (gC_get hi)]; congr 1; simp only [decide_eq_true_eq]
theorem inside_len {w h : Int} {l : List Cel} : (inside w h l).length ≤ l.length := List.length_filter_le ..
theorem l01Beside_gives (l : IsLawn w h g cs) (x y : Int) (hx : -127 ≤ x ∧ x ≤ 126 ∧ -127 ≤ y ∧ y ≤ 126) : Gives G 85 [ar cs, ac x y] ⟨[.own (inside w h (Near x y)).length 2 (encC (inside w h (Near x y)))], []⟩ := by
  refine Gives.by rfl rfl (W.seq ?_)
  repeat' first | ((with_reducible apply WR.mv); exact rfl; exact rfl) | ((with_reducible apply WR.lx); exact rfl; exact rfl) | ((with_reducible apply WR.fa); exact rfl; exact rfl) | ((with_reducible apply WR.bC); exact rfl; exact rfl; exact rfl) | ((with_reducible apply WR.ad); exact rfl; exact rfl; exact rfl; (first | exact i8_in _ (by omega))) | ((with_reducible apply WR.bs0); exact rfl; (first | exact rfl)) | ((with_reducible apply WR.bs4); exact rfl; exact rfl; exact rfl; exact rfl; exact rfl; (first | exact rfl)) | ((with_reducible apply WR.nil)) | (with_reducible refine andThen_n ?_) | (with_reducible refine W.seq ?_) | (with_reducible refine W.region ?_) | (with_reducible refine W.block ?_) | ((with_reducible apply WR.sb); exact rfl; exact rfl; exact rfl; (first | exact i8_in _ (by omega))) | ((with_reducible apply WR.bx); exact rfl; exact rfl; exact (by first | exact rfl); (first | exact rfl))
  have hN : (Near x y).length = 4 := rfl
  (refine (?_ : W _ (Code.loop _) _ _))
  (refine W.loopM [0, 5] [] [51, 52] (fun zz : (Nat) × (List Cel) => match zz with | (i, out) => (4 - i : Nat)) (fun zz : (Nat) × (List Cel) => match zz with | (i, out) => (i ≤ 4 ∧ out.length ≤ 4 ∧ out = inside w h ((Near x y).take i) : Prop)) (fun zz : (Nat) × (List Cel) => match zz with | (i, out) => [(6, .a (.sl 33 0 out.length 2)), (7, .a (.d (.s (.int .i64 (i : Nat)))))]) (fun zz : (Nat) × (List Cel) => match zz with | (i, out) => [(33, .flat false (encC out)), (32, .flat false (encC (Near x y)))]) (0, []) (⟨by omega, by simp, by simp [inside]⟩) ⟨rfl, rfl, trivial⟩ ⟨rfl, rfl, trivial⟩ ⟨(by (repeat' first | exact rfl | assumption | (with_reducible apply noPar_set) | ((with_reducible apply noPar_puto); exact rfl) | (with_reducible apply noPar_put) | (with_reducible apply noPar_putv) | (with_reducible apply noPar_kill) | ((with_reducible apply noPar_mix); exact rfl) | ((with_reducible apply noPar_mixT); exact rfl)); done), (by (repeat' first | exact rfl | assumption | (with_reducible apply noPar_set) | ((with_reducible apply noPar_puto); exact rfl) | (with_reducible apply noPar_put) | (with_reducible apply noPar_putv) | (with_reducible apply noPar_kill) | ((with_reducible apply noPar_mix); exact rfl) | ((with_reducible apply noPar_mixT); exact rfl)); done), trivial⟩ ?_)
  rintro ⟨i, out⟩ σ hP hN; dsimp only [setL, putL] at hP ⊢; obtain ⟨n51, hN⟩ := hN; obtain ⟨n52, hN⟩ := hN
  obtain ⟨hi, hl, ho⟩ := hP
  repeat' first | ((with_reducible apply WR.mv); exact rfl; exact rfl) | ((with_reducible apply WR.ld); exact rfl; exact rfl; exact rfl; (first | exact ldC (by first | omega))) | ((with_reducible apply WR.nil)) | (with_reducible refine andThen_n ?_) | (with_reducible refine andThen_x ?_) | (with_reducible refine inB_x ?_) | (with_reducible refine W.seq ?_) | (with_reducible refine W.region ?_) | (with_reducible refine W.skip ?_) | (with_reducible refine W.ret ?_) | (with_reducible refine W.exit ?_) | (with_reducible refine W.block ?_) | ((with_reducible apply W.condT); exact rfl) | ((with_reducible apply W.condF); exact rfl) | ((with_reducible apply Done.f); (intro hh hh2; exact (nomatch hh2)); (focus ((repeat' first | exact all_nil | apply all_cons | exact res_tmp rfl | exact rfl); done)); (focus ((repeat' first | exact all_nil | apply all_cons | exact retOf_o rfl rfl (by first | exact encC_length _ | exact rfl) | exact rfl); done)); exact rfl; (focus ((repeat' first | exact outs_nil | apply outs_d | exact rfl); done))) | (intro hb; try (exfalso; omega)) | ((with_reducible apply WR.isn); exact rfl; exact rfl; exact rfl; omega) | ((with_reducible apply WR.lss); exact rfl; exact rfl; exact rfl) | ((with_reducible apply WR.le); exact rfl; exact rfl)
  · have hb := Near_b (gC_mem (l := Near x y) (k := i) (by omega))
    have hs := inside_step (w := w) (h := h) (l := Near x y) (i := i) (by omega)
    have hs2 := inside_len (w := w) (h := h) (l := (Near x y).take (i + 1))
    have hs3 : ((Near x y).take (i + 1)).length ≤ 4 := by rw [List.length_take]; omega
    repeat' first | ((with_reducible apply WR.c_p (f := 50) (fn := Code.f50)); exact rfl; exact rfl; exact rfl; (first | exact rfl); (focus ((repeat' first | exact args_nil | apply args_d | exact toD_d rfl | exact rfl); done)); exact l01Is_gives (by assumption) _ _ (by omega)) | ((with_reducible apply WR.mv); exact rfl; exact rfl) | ((with_reducible apply WR.ld); exact rfl; exact rfl; exact rfl; (first | exact ldC (by first | omega))) | ((with_reducible apply WR.ad); exact rfl; exact rfl; exact rfl; (first | exact i64_in _ (by omega) | assumption)) | ((with_reducible apply WR.bs1); exact rfl; exact rfl; (first | exact rfl | assumption)) | ((with_reducible apply WR.nil)) | (with_reducible refine andThen_n ?_) | (with_reducible refine inB_n ?_) | (with_reducible refine W.region ?_) | (with_reducible refine W.skip ?_) | ((with_reducible apply W.condT); exact rfl) | ((with_reducible apply W.condF); exact rfl) | (intro hb; try (exfalso; omega)) | ((with_reducible apply WR.isn); exact rfl; exact rfl; exact rfl; omega) | ((with_reducible apply WR.apC); exact rfl; exact rfl; exact rfl; exact rfl; omega)
    · rw [if_pos (by assumption), ← ho] at hs
      (refine W.nxt (i + 1, out ++ [gC (Near x y) i]) (by first | omega | (dsimp only; omega)) ?_ ⟨rfl, rfl, trivial⟩ ⟨rfl, rfl, trivial⟩ ⟨rfl, rfl, trivial⟩ trivial ⟨(by (repeat' first | exact rfl | assumption | (with_reducible apply noPar_set) | ((with_reducible apply noPar_puto); exact rfl) | (with_reducible apply noPar_put) | (with_reducible apply noPar_putv) | (with_reducible apply noPar_kill) | ((with_reducible apply noPar_mix); exact rfl) | ((with_reducible apply noPar_mixT); exact rfl)); done), (by (repeat' first | exact rfl | assumption | (with_reducible apply noPar_set) | ((with_reducible apply noPar_puto); exact rfl) | (with_reducible apply noPar_put) | (with_reducible apply noPar_putv) | (with_reducible apply noPar_kill) | ((with_reducible apply noPar_mix); exact rfl) | ((with_reducible apply noPar_mixT); exact rfl)); done), trivial⟩); (try dsimp only)
      exact ⟨by omega, by rw [← hs]; omega, hs.symm⟩
    · rw [if_neg (by assumption), List.append_nil, ← ho] at hs
      (refine W.nxt (i + 1, out) (by first | omega | (dsimp only; omega)) ?_ ⟨rfl, rfl, trivial⟩ ⟨rfl, rfl, trivial⟩ ⟨rfl, rfl, trivial⟩ trivial ⟨(by (repeat' first | exact rfl | assumption | (with_reducible apply noPar_set) | ((with_reducible apply noPar_puto); exact rfl) | (with_reducible apply noPar_put) | (with_reducible apply noPar_putv) | (with_reducible apply noPar_kill) | ((with_reducible apply noPar_mix); exact rfl) | ((with_reducible apply noPar_mixT); exact rfl)); done), (by (repeat' first | exact rfl | assumption | (with_reducible apply noPar_set) | ((with_reducible apply noPar_puto); exact rfl) | (with_reducible apply noPar_put) | (with_reducible apply noPar_putv) | (with_reducible apply noPar_kill) | ((with_reducible apply noPar_mix); exact rfl) | ((with_reducible apply noPar_mixT); exact rfl)); done), trivial⟩); (try dsimp only)
      exact ⟨by omega, by omega, hs.symm⟩
  · rw [ho, List.take_of_length_le (by omega)]; rfl
end Go.DM
