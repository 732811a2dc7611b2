/- Rows of cells in the order of a number: sorted rows, rows made anew. -/
import Derived.Test.YteghgkdakhelfaaK194Loop
import Derived.Test.YteghgkdakhelfaaK194More
set_option linter.unusedSimpArgs false
set_option linter.unusedVariables false
namespace Go.DM
variable {key : Cel → Int}
abbrev InC (c : Cel) : Prop := 0 ≤ c.1 ∧ c.1 < 10 ∧ 0 ≤ c.2 ∧ c.2 < 10
def Srt (key : Cel → Int) (L : List Cel) : Prop := L.Pairwise fun a b => key a < key b
def Dis (key : Cel → Int) (L : List Cel) : Prop := L.Pairwise fun a b => key a ≠ key b
def ins (key : Cel → Int) (c : Cel) : List Cel → List Cel
  | [] => [c]
  | d :: r => if key c < key d then c :: d :: r else d :: ins key c r
def srt (key : Cel → Int) : List Cel → List Cel
  | [] => []
  | c :: r => ins key c (srt key r)
theorem ins_mem {c e : Cel} : ∀ {L : List Cel}, e ∈ ins key c L ↔ e = c ∨ e ∈ L
  | [] => by simp [ins]
  | d :: r => by
    unfold ins
    split
    · simp
    · rw [List.mem_cons, ins_mem, List.mem_cons]
      constructor
      · rintro (h | h | h)
        · exact .inr (.inl h)
        · exact .inl h
        · exact .inr (.inr h)
      · rintro (h | h | h)
        · exact .inr (.inl h)
        · exact .inl h
        · exact .inr (.inr h)
theorem ins_len {c : Cel} : ∀ {L : List Cel}, (ins key c L).length = L.length + 1
  | [] => rfl
  | d :: r => by
    unfold ins
    split
    · rfl
    · rw [List.length_cons, ins_len, List.length_cons]
theorem srt_mem {e : Cel} : ∀ {L : List Cel}, e ∈ srt key L ↔ e ∈ L
  | [] => Iff.rfl
  | c :: r => by rw [srt, ins_mem, srt_mem, List.mem_cons]
theorem srt_len : ∀ {L : List Cel}, (srt key L).length = L.length
  | [] => rfl
  | c :: r => by rw [srt, ins_len, srt_len, List.length_cons]
theorem ins_srt {c : Cel} : ∀ {L : List Cel}, Srt key L → (∀ d ∈ L, key c ≠ key d) → Srt key (ins key c L)
  | [], _, _ => List.pairwise_singleton ..
  | d :: r, h, hd => by
    obtain ⟨h1, h2⟩ := List.pairwise_cons.1 h
    have h3 := hd d (List.mem_cons_self ..)
    unfold ins
    split
    · rename_i hlt
      refine List.pairwise_cons.2 ⟨fun e he => ?_, h⟩
      rcases List.mem_cons.1 he with rfl | he
      · exact hlt
      · have := h1 e he; omega
    · rename_i hlt
      refine List.pairwise_cons.2 ⟨fun e he => ?_, ins_srt h2 fun e he => hd e (List.mem_cons_of_mem _ he)⟩
      rcases ins_mem.1 he with rfl | he
      · omega
      · exact h1 e he
theorem srt_srt : ∀ {L : List Cel}, Dis key L → Srt key (srt key L)
  | [], _ => List.Pairwise.nil
  | c :: r, h => by
    obtain ⟨h1, h2⟩ := List.pairwise_cons.1 h
    exact ins_srt (srt_srt h2) fun d hd => h1 d (srt_mem.1 hd)
/-- Two sorted rows of the same cells are one. -/
theorem srt_uniq : ∀ {A B : List Cel}, Srt key A → Srt key B → (∀ c, c ∈ A ↔ c ∈ B) → A = B
  | [], [], _, _, _ => rfl
  | [], d :: r, _, _, h => absurd ((h d).2 (List.mem_cons_self ..)) (by simp)
  | c :: r, [], _, _, h => absurd ((h c).1 (List.mem_cons_self ..)) (by simp)
  | c :: A, d :: B, hA, hB, h => by
    obtain ⟨a1, a2⟩ := List.pairwise_cons.1 hA
    obtain ⟨b1, b2⟩ := List.pairwise_cons.1 hB
    have e : c = d := by
      rcases List.mem_cons.1 ((h c).1 (List.mem_cons_self ..)) with e | h1
      · exact e
      · rcases List.mem_cons.1 ((h d).2 (List.mem_cons_self ..)) with e | h2
        · exact e.symm
        · have := a1 d h2; have := b1 c h1; omega
    subst e
    congr 1
    refine srt_uniq a2 b2 fun x => ?_
    have hx := h x
    rw [List.mem_cons, List.mem_cons] at hx
    constructor
    · intro h1
      rcases hx.1 (.inr h1) with e | h2
      · subst e; have := a1 x h1; omega
      · exact h2
    · intro h1
      rcases hx.2 (.inr h1) with e | h2
      · subst e; have := b1 x h1; omega
      · exact h2
theorem srt_eq {S T : List Cel} (hS : Srt key S) (hT : Dis key T) (h : ∀ c, c ∈ S ↔ c ∈ T) : S = srt key T :=
  srt_uniq hS (srt_srt hT) fun c => (h c).trans srt_mem.symm
theorem Srt.dis {L : List Cel} (h : Srt key L) : Dis key L := h.imp fun h => by omega
theorem Srt.self {L : List Cel} (h : Srt key L) : srt key L = L := (srt_eq h h.dis fun _ => Iff.rfl).symm
theorem Dis.perm {L L' : List Cel} (h : Dis key L) (hp : L.Perm L') : Dis key L' := hp.pairwise h fun {a b} hab => Ne.symm hab
/-- Two rows, the one ahead of the other. -/
theorem srt_two {X Y : List Cel} (hD : Dis key (X ++ Y)) (h : ∀ x ∈ X, ∀ y ∈ Y, key x < key y) : srt key (X ++ Y) = srt key X ++ srt key Y := by
  obtain ⟨h1, h2, h3⟩ := List.pairwise_append.1 hD
  refine (srt_eq (List.pairwise_append.2 ⟨srt_srt h1, srt_srt h2, fun a ha b hb => h a (srt_mem.1 ha) b (srt_mem.1 hb)⟩) hD fun c => ?_).symm
  rw [List.mem_append, List.mem_append, srt_mem, srt_mem]
theorem srt_same {X Y : List Cel} (hD : Dis key X) (hD2 : Dis key Y) (h : ∀ c, c ∈ X ↔ c ∈ Y) : srt key X = srt key Y :=
  srt_eq (srt_srt hD) hD2 fun c => srt_mem.trans (h c)
/-- Rows put together, looked at. -/
theorem gC_app (A B : List Cel) (k : Nat) : gC (A ++ B) k = if k < A.length then gC A k else gC B (k - A.length) := by
  simp only [gC, List.getD_eq_getElem?_getD]
  split
  · rename_i h; rw [List.getElem?_append_left h]
  · rename_i h; rw [List.getElem?_append_right (by omega)]
theorem gC_ext {A B : List Cel} (hl : A.length = B.length) (h : ∀ k, k < A.length → gC A k = gC B k) : A = B := by
  apply List.ext_getElem?
  intro k
  by_cases hk : k < A.length
  · rw [gC_get hk, gC_get (by omega), h k hk]
  · rw [List.getElem?_eq_none (by omega), List.getElem?_eq_none (by omega)]
theorem gC_set {L : List Cel} {j k : Nat} {c : Cel} (hj : j < L.length) : gC (L.set j c) k = if k = j then c else gC L k := by
  simp only [gC, List.getD_eq_getElem?_getD]
  by_cases e : k = j
  · subst e; rw [List.getElem?_set_self hj, if_pos rfl]; rfl
  · rw [List.getElem?_set_ne (Ne.symm e), if_neg e]
/-- The merge: what is searched parts both rows. -/
theorem sym_part {A B : List Cel} {s e : Nat} (hA : Srt key A) (hB : Srt key B) (hs : s ≤ A.length) (he : e ≤ B.length)
    (h1 : 0 < s → e < B.length → key (gC A (s - 1)) < key (gC B e)) (h2 : 0 < e → s < A.length → key (gC B (e - 1)) < key (gC A s)) :
    ∀ x ∈ A.take s ++ B.take e, ∀ y ∈ A.drop s ++ B.drop e, key x < key y := by
  have at' : ∀ {L : List Cel}, Srt key L → ∀ i j, i < j → j < L.length → key (gC L i) < key (gC L j) := fun {L} hL i j hij hj => by
    have := (List.pairwise_iff_getElem.1 hL) i j (by omega) hj hij
    have e1 := gC_get (show i < L.length by omega)
    have e2 := gC_get hj
    rw [List.getElem?_eq_getElem (by omega)] at e1 e2
    simp only [Option.some.injEq] at e1 e2
    rw [e1, e2] at this; exact this
  have tk : ∀ {L : List Cel} {n : Nat} {x : Cel}, n ≤ L.length → x ∈ L.take n → ∃ i, i < n ∧ gC L i = x := fun {L n x} hn hx => by
    obtain ⟨i, hi, e⟩ := List.getElem_of_mem hx
    rw [List.length_take] at hi
    refine ⟨i, by omega, ?_⟩
    have e1 := gC_get (show i < L.length by omega)
    rw [List.getElem?_eq_getElem (by omega)] at e1
    simp only [Option.some.injEq] at e1
    rw [List.getElem_take] at e
    rw [← e1, e]
  have dp : ∀ {L : List Cel} {n : Nat} {x : Cel}, x ∈ L.drop n → ∃ i, n ≤ i ∧ i < L.length ∧ gC L i = x := fun {L n x} hx => by
    obtain ⟨i, hi, e⟩ := List.getElem_of_mem hx
    rw [List.length_drop] at hi
    refine ⟨n + i, by omega, by omega, ?_⟩
    have e1 := gC_get (show n + i < L.length by omega)
    rw [List.getElem?_eq_getElem (by omega)] at e1
    simp only [Option.some.injEq] at e1
    rw [List.getElem_drop] at e
    rw [← e1, e]
  intro x hx y hy
  rw [List.mem_append] at hx hy
  rcases hx with hx | hx <;> rcases hy with hy | hy
  · obtain ⟨i, hi, rfl⟩ := tk hs hx
    obtain ⟨j, hj, hj2, rfl⟩ := dp hy
    exact at' hA i j (by omega) hj2
  · obtain ⟨i, hi, rfl⟩ := tk hs hx
    obtain ⟨j, hj, hj2, rfl⟩ := dp hy
    have k1 := h1 (by omega) (by omega)
    have k2 : key (gC A i) ≤ key (gC A (s - 1)) := by
      by_cases e : i = s - 1
      · rw [e]; omega
      · have := at' hA i (s - 1) (by omega) (by omega); omega
    have k3 : key (gC B e) ≤ key (gC B j) := by
      by_cases e2 : j = e
      · rw [e2]; omega
      · have := at' hB e j (by omega) hj2; omega
    omega
  · obtain ⟨i, hi, rfl⟩ := tk he hx
    obtain ⟨j, hj, hj2, rfl⟩ := dp hy
    have k1 := h2 (by omega) (by omega)
    have k2 : key (gC B i) ≤ key (gC B (e - 1)) := by
      by_cases e2 : i = e - 1
      · rw [e2]; omega
      · have := at' hB i (e - 1) (by omega) (by omega); omega
    have k3 : key (gC A s) ≤ key (gC A j) := by
      by_cases e2 : j = s
      · rw [e2]; omega
      · have := at' hA s j (by omega) hj2; omega
    omega
  · obtain ⟨i, hi, rfl⟩ := tk he hx
    obtain ⟨j, hj, hj2, rfl⟩ := dp hy
    exact at' hB i j (by omega) hj2
theorem sym_srt {A B : List Cel} {s e : Nat} (hA : Srt key A) (hB : Srt key B) (hD : Dis key (A ++ B)) (hs : s ≤ A.length) (he : e ≤ B.length)
    (h1 : 0 < s → e < B.length → key (gC A (s - 1)) < key (gC B e)) (h2 : 0 < e → s < A.length → key (gC B (e - 1)) < key (gC A s)) :
    srt key (A ++ B) = srt key (A.take s ++ B.take e) ++ srt key (A.drop s ++ B.drop e) ∧ Dis key (A.take s ++ B.take e) ∧ Dis key (A.drop s ++ B.drop e) := by
  have hp : (A ++ B).Perm ((A.take s ++ B.take e) ++ (A.drop s ++ B.drop e)) := by
    have e1 : A ++ B = A.take s ++ (A.drop s ++ (B.take e ++ B.drop e)) := by
      rw [List.take_append_drop, ← List.append_assoc, List.take_append_drop]
    rw [e1, List.append_assoc]
    refine List.Perm.append_left _ ?_
    rw [← List.append_assoc, ← List.append_assoc]
    exact List.Perm.append_right _ List.perm_append_comm
  have hD2 := hD.perm hp
  obtain ⟨d1, d2, _⟩ := List.pairwise_append.1 hD2
  refine ⟨?_, d1, d2⟩
  rw [← srt_two hD2 (sym_part hA hB hs he h1 h2)]
  exact srt_same hD hD2 fun c => hp.mem_iff
end Go.DM

/- A mole's night: the program's side. -/
set_option linter.unusedSimpArgs false
set_option linter.unusedVariables false
namespace Go.DM
open Go.IntWalk
variable {w h : Int} {g : Nat → Int} {cs : List S} {q : Nat → Int} {qs : List S}

theorem encC_takeA (l r : List Cel) : ((encC (l ++ r)).drop 0).take (l.length * 2) = encC l := by
  rw [List.drop_zero, encC_tk, List.take_left']; rfl

section
variable {Γ : Nat → Option Fn} {dsts : Nat → Option Nat} {ops : List Oper} {Q : St → Prop} {σ : St} {d : Option Nat} {gd : Option (Nat × Bool)} {l1 l2 l3 l4 : List Nat}
/-- A call of slices.DeleteFunc. -/
theorem WR.de {e p f : Nat} {fn : Fn} {z : D} {a b : Opd} {v : V} (P : Cel → Prop) [DecidablePred P] (l r : List Cel) (hl : l.length ≤ 1000) (hf : G f = some fn) (hm : fn.muts = []) (hP : ∀ c ∈ l, Gives G f [ac c.1 c.2, .d z] (rb (decide (P c))))
    (hw : wanted dsts σ.env gd = some true) (ha : ev σ.env a = .a (.sl p 0 l.length 2)) (ho : σ.objs p = some (.flat false (encC (l ++ r)))) (hb : ev σ.env b = v) (hz : toDV (fun o => if [p].contains o then none else σ.objs o) depth v = some (.clo f [] [z])) (hv : mutIds [] [v] = [])
    (k : WR G dsts ops Q (set (some e) (.a (.sl p 0 (kept P l).length 2)) (put p (.flat false (encC (kept P l ++ (List.replicate (l.length - (kept P l).length) (0, 0) ++ r)))) σ))) : WR G dsts (⟨some e, .call 63 [a, b], gd, l1, l2, l3, l4⟩ :: ops) Q σ := by
  have hkl : (kept P l).length ≤ l.length := List.length_filter_le ..
  have hlen : (encC (kept P l ++ List.replicate (l.length - (kept P l).length) (0, 0))).length = l.length * 2 := by
    rw [encC_length, List.length_append, List.length_replicate]; omega
  have hL : (encC (l ++ r)).length = (l.length + r.length) * 2 := by rw [encC_length, List.length_append]
  refine WR.call (d := e) (f := 63) (fn := Code.f63) (vs := [.a (.sl p 0 l.length 2), v]) (as := [.ms l.length 2 (encC l), .d (.clo f [] [z])]) (ps := [(p, .flat false (encC (kept P l ++ (List.replicate (l.length - (kept P l).length) (0, 0) ++ r))))]) (ns := []) (v := .a (.sl p 0 (kept P l).length 2))
    hw rfl (by simp only [callee, List.map_cons, List.map_nil, ha, hb]) rfl ?_ ?_ (deleteFunc_gives P l hl hf hm hP) ?_ ?_ rfl rfl ?_
  · show nodup (p :: mutIds [] [v]) = true
    rw [hv]; rfl
  · show args σ (p :: mutIds [] [v]) [true] [.a (.sl p 0 l.length 2), v] = _
    rw [hv]
    simp only [args, if_true, writable, ho]
    rw [if_pos (by rw [hL]; omega), encC_takeA, hz]
    rfl
  · show backs σ [true] [.a (.sl p 0 l.length 2), v] [_] = _
    simp only [backs, ho]
    rw [if_pos ⟨hlen, by rw [hL]; omega⟩]
    have e1 : (encC (l ++ r)).drop (0 + l.length * 2) = encC r := by
      rw [Nat.zero_add, encC_dr, List.drop_left']; rfl
    simp only [List.take_zero, List.nil_append, e1]
    rw [← encC_append, List.append_assoc]
    cases v <;> rfl
  · simp [retsV, retV]
  · simp only [List.append_nil, List.map_nil, insertAll, kill_nil]
    exact k
end
def lv (q : Nat → Int) (c : Cel) : Int := q (10 * c.2.toNat + c.1.toNat)
/-- The lowest of some cells, the first one of several. -/
def lowest (q : Nat → Int) (at' : Cel) : List Cel → Cel
  | [] => at'
  | c :: r => r.foldl (fun t c => if lv q c < lv q t then c else t) c
/-- Where a mole goes. -/
def goes (w h : Int) (g q : Nat → Int) (a b : Cel) : Cel :=
  let near := kept (fun c => ¬ Is w h g 0 c.1 c.2) (Near a.1 a.2)
  lowest q a (if 1 < near.length then kept (fun c => c.1 = b.1 ∧ c.2 = b.2) near else near)

theorem kept_mem {P : Cel → Prop} [DecidablePred P] {l : List Cel} {c : Cel} (h : c ∈ kept P l) : c ∈ l ∧ ¬ P c := by
  unfold kept at h
  rw [List.mem_filter] at h
  exact ⟨h.1, by simpa using h.2⟩
theorem near_in (hs : w ≤ 10 ∧ h ≤ 10) {a b : Cel} {c : Cel} (hc : c ∈ (if 1 < (kept (fun c => ¬ Is w h g 0 c.1 c.2) (Near a.1 a.2)).length then kept (fun c => c.1 = b.1 ∧ c.2 = b.2) (kept (fun c => ¬ Is w h g 0 c.1 c.2) (Near a.1 a.2)) else kept (fun c => ¬ Is w h g 0 c.1 c.2) (Near a.1 a.2))) :
    0 ≤ c.1 ∧ c.1 < 10 ∧ 0 ≤ c.2 ∧ c.2 < 10 := by
  have : c ∈ kept (fun c => ¬ Is w h g 0 c.1 c.2) (Near a.1 a.2) := by
    split at hc
    · exact (kept_mem hc).1
    · exact hc
  have h2 := Decidable.not_not.1 (kept_mem this).2
  simp only [Is] at h2
  omega

section
variable {Γ : Nat → Option Fn} {dsts : Nat → Option Nat} {ops : List Oper} {Q : St → Prop} {σ : St} {gd : Option (Nat × Bool)} {l1 l2 l3 l4 : List Nat}
/-- A call that answers several cells. -/
theorem WR.ca {f e : Nat} {xs : List Opd} {fn : Fn} {as : List Arg} {b : List S} (hw : wanted dsts σ.env gd = some true) (hΓ : Γ f = some fn)
    (hn : mutIds fn.muts (xs.map (ev σ.env)) = []) (ha : args σ [] fn.muts (xs.map (ev σ.env)) = some as) (hg : Gives Γ f as ⟨[.agg b], []⟩) (hb : backs σ fn.muts (xs.map (ev σ.env)) [] = some [])
    (k : WR Γ dsts ops Q (set (some e) (.a (.d (.agg b))) σ)) : WR Γ dsts (⟨some e, .call f xs, gd, l1, l2, l3, l4⟩ :: ops) Q σ := by
  refine WR.call (d := e) (v := .a (.d (.agg b))) (ps := []) (ns := []) hw rfl rfl hΓ (by rw [hn]; rfl) (by rw [hn]; exact ha) hg hb rfl rfl rfl ?_
  simp only [List.append_nil, List.map_nil, insertAll, kill_nil]
  exact k
end
theorem finish_c2 {fn : Fn} {σ : St} {as : List Arg} {t n p t' n' p' : Nat} {b b' : Bool} {cs cs' : List S} (hr : fn.res = [.cell t n true, .cell t' n' true]) (he : σ.env t = .a (.ptr p 0)) (ho : σ.objs p = some (.flat b cs)) (hl : cs.length = n)
    (he' : σ.env t' = .a (.ptr p' 0)) (ho' : σ.objs p' = some (.flat b' cs')) (hl' : cs'.length = n') (hm : outsOf σ 0 as = some []) : finish fn as σ = some ⟨[.agg cs, .agg cs'], []⟩ := by
  simp only [finish, hr, all?, resV, he, he', load, ho, ho', loadC_all hl, loadC_all hl', Option.bind_some, Option.map_some, retOf]
  simp [nodup, hm]
theorem lowest_step (q : Nat → Int) (a : Cel) {M : List Cel} {i : Nat} {c : Cel} (h : M[i]? = some c) : lowest q a (M.take (i + 1)) = if i = 0 ∨ lv q c < lv q (lowest q a (M.take i)) then c else lowest q a (M.take i) := by
  rw [List.take_add_one, h]
  cases M with
  | nil => simp at h
  | cons d r =>
    cases i with
    | zero => simp at h; simp [lowest, h]
    | succ i =>
      simp only [List.take_succ_cons, Option.toList_some, List.cons_append, lowest, List.foldl_append, List.foldl_cons, List.foldl_nil]
      simp

def nightLev (q : Nat → Int) (qs : List S) (t : Cel) : List S := if lv q t < 9 then qs.set (10 * t.2.toNat + t.1.toNat) (.int .i8 (lv q t + 1)) else qs
abbrev moleS (a b : Cel) : List S := [.int .i8 a.1, .int .i8 a.2, .int .i8 b.1, .int .i8 b.2]

end Go.DM
