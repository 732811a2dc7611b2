/- Operations that write into an object: store, append, clear. -/
import Derived.Test.YtgbifpijjfolbaaGreatK441SimD
import Derived.Below
set_option linter.all false
namespace Go.DM
variable [Tok]
section
variable {P : Program} {X : Cx} {φ : Nat → Option Loc} {w : World} {σ : St} {a : Act}
theorem setCells_keep (b : Nat) : ∀ (vs : List Value) (o : Nat) (w : World), (w.setCells b o vs).os = w.os ∧ (w.setCells b o vs).tape = w.tape ∧ (w.setCells b o vs).output = w.output ∧ (w.setCells b o vs).heap.size = w.heap.size ∧ (w.setCells b o vs).drawn = w.drawn
  | [], _, _ => ⟨rfl, rfl, rfl, rfl, rfl⟩
  | v :: r, o, w => by
    obtain ⟨h1, h2, h3, h4, h5⟩ := setCells_keep b r (o + 1) (w.setCell ⟨b, o, none⟩ v)
    rw [World.setCells]
    exact ⟨h1, h2, h3, by rw [h4]; simp, h5⟩
theorem setCells_other (b : Nat) : ∀ (vs : List Value) (o : Nat) (w : World) (b' : Nat), b' ≠ b → Same w (w.setCells b o vs) b'
  | [], _, _, _, _ => rfl
  | v :: r, o, w, b', h => by
    rw [World.setCells]
    refine (setCells_other b r (o + 1) _ b' h).trans ?_
    exact Go.RowKit.Below.heap_setCell w ⟨b, o, none⟩ v b' h
theorem setCell_shape (w : World) (p : Addr) (v : Value) : Shape w (w.setCell p v) := fun b c T fz hb => by
  by_cases e : b = p.block
  · subst e
    refine ⟨if p.spot.isSome then c else c.setIfInBounds p.off v, ?_, by split <;> simp⟩
    simp [World.setCell, Array.getElem?_modify, hb]
  · exact ⟨c, by rw [Go.RowKit.Below.heap_setCell w p v b e]; exact hb, rfl⟩
theorem Shape.trans {w w1 w2 : World} (h : Shape w w1) (g : Shape w1 w2) : Shape w w2 := fun b c T fz hb => by
  obtain ⟨c1, h1, h2⟩ := h b c T fz hb
  obtain ⟨c2, h3, h4⟩ := g b c1 T fz h1
  exact ⟨c2, h3, h4.trans h2⟩
theorem setCells_shape (b : Nat) : ∀ (vs : List Value) (o : Nat) (w : World), Shape w (w.setCells b o vs)
  | [], _, w => Shape.refl w
  | v :: r, o, w => by rw [World.setCells]; exact (setCell_shape w _ v).trans (setCells_shape b r (o + 1) _)
theorem blk_there {b : Nat} {c : Array Value} {T : TypeId} {fz : Nat × Nat} (h : Blk w b c T fz) {o n : Nat} (hn : o + n ≤ c.size) : w.there b o n := fun j hj => by
  refine ⟨by simp [World.cell?, h.1, show o + j < c.size by omega], ?_⟩
  have := h.2 (o + j) (by omega)
  simp only [World.frozen?, h.1, Bool.and_eq_false_iff, decide_eq_false_iff_not]
  omega
theorem blk_keep {w' : World} {b : Nat} {c : Array Value} {T : TypeId} {fz : Nat × Nat} (h : Blk w b c T fz) (hs : Shape w w') : ∃ c', Blk w' b c' T fz ∧ c'.size = c.size := by
  obtain ⟨c', h1, h2⟩ := hs b c T fz h.1
  exact ⟨c', ⟨h1, fun k hk => h.2 k (by omega)⟩, h2⟩
theorem range_store {b base : Nat} {cs xs : List S} {off : Nat} (h : w.rangeAt b base (encs cs)) (hl : off + xs.length ≤ cs.length) (ht : w.there b (base + off) xs.length) :
    (w.setCells b (base + off) (encs xs)).rangeAt b base (encs (cs.take off ++ xs ++ cs.drop (off + xs.length))) := fun j v hv => by
  have hv' : (encs (cs.take off ++ xs ++ cs.drop (off + xs.length)))[j]? = some v := hv
  simp only [encs_append] at hv'
  have hlo : (encs (cs.take off)).length = off := by rw [encs_length, List.length_take]; omega
  by_cases h1 : j < off
  · rw [List.append_assoc, List.getElem?_append_left (by omega)] at hv'
    have : (encs cs)[j]? = some v := by
      simp only [encs, List.map_take, List.getElem?_take, h1, if_true] at hv' ⊢
      exact hv'
    rw [World.cell?_setCells_out b _ _ _ _ (fun _ _ => Or.inl (by show base + j < base + off; omega))]
    exact h j v this
  · by_cases h2 : j < off + xs.length
    · rw [List.append_assoc, List.getElem?_append_right (by omega), hlo, List.getElem?_append_left (by rw [encs_length]; omega)] at hv'
      have := World.cell?_setCells_in b (encs xs) (base + off) w (fun i hi => (ht i (by simpa [encs] using hi)).1) (j - off) (by rw [encs_length]; omega)
      rw [show base + off + (j - off) = base + j by omega] at this
      rw [this, ← hv', List.getElem?_eq_getElem]
    · rw [List.getElem?_append_right (by rw [List.length_append, hlo, encs_length]; omega), List.length_append, hlo, encs_length] at hv'
      have : (encs cs)[j]? = some v := by
        simp only [encs, List.map_drop, List.getElem?_drop] at hv' ⊢
        rwa [show off + xs.length + (j - (off + xs.length)) = j by omega] at hv'
      rw [World.cell?_setCells_out b _ _ _ _ (fun _ _ => Or.inr (by show base + off + (encs xs).length ≤ base + j; rw [encs_length]; omega))]
      exact h j v this
theorem Does.write {o : Nat} {ob ob' : Ob} {l : Loc} {off : Nat} {vs : List Value} {v : V} {u : Value} (hob : σ.objs o = some ob) (hφ : φ o = some l) (hb : l.1 < w.heap.size)
    (hob' : ObRel X φ (w.setCells l.1 (l.2 + off) vs) ob' l) (hp : parLen ob' = parLen ob) (hr : ∀ n, parLen ob = some n → off + vs.length ≤ n) (hv : VRel X φ (w.setCells l.1 (l.2 + off) vs) v u) :
    Does X σ { v := v, puts := [(o, ob')] } φ φ w (w.setCells l.1 (l.2 + off) vs) u := by
  obtain ⟨k1, k2, k3, k4, _⟩ := setCells_keep l.1 vs (l.2 + off) w
  refine ⟨k1, k2, k3, by omega, setCells_shape _ _ _ _, fun _ _ => rfl, ?_, ?_, ?_, hv, ?_⟩
  · intro b _ h
    exact setCells_other l.1 vs _ w b (fun e => h o ob l hob (by simp [lookP]) hφ e.symm)
  · intro o1 ob1 h1
    obtain ⟨rfl, rfl⟩ := lookP_one h1
    exact ⟨l, hφ, hob', by omega, .inr ⟨o1, ob, l, hob, hφ, rfl, .inl ⟨rfl, rfl, hp⟩⟩⟩
  · intro o1 o2 ob1 ob2 l1 l2 h1 h2 _ _ _
    obtain ⟨rfl, _⟩ := lookP_one h1
    obtain ⟨rfl, _⟩ := lookP_one h2
    rfl
  · intro o1 ob1 n l1 h1 h2 h3 k hk
    obtain ⟨rfl, rfl⟩ := lookP_one h1
    rw [hφ] at h3; cases h3
    have := hr n (by rw [← hp]; exact h2)
    exact World.cell?_setCells_out l.1 vs _ w ⟨l.1, k, none⟩ (fun _ _ => by show k < l.2 + off ∨ l.2 + off + vs.length ≤ k; omega)
theorem run_storeVar_list {T : TypeId} {b o : Nat} {val : Value} {vs : List Value} (hs : sizeIs P T vs.length = true) (hv : val.cells = vs.toArray) (h1 : ∀ v ∈ vs, v.oneCell' = true) (ht : w.there b o vs.length) :
    (storeVar T ⟨b, o, none⟩ val).run P w = .ok () (w.setCells b o vs) := by
  have := run_storeCells_cells (P := P) b o vs 0 w (fun j hj => by simpa using (ht j hj).1) (fun j hj => by simpa using (ht j hj).2) h1
  simp only [Nat.add_zero] at this
  simp [storeVar, run_sizeOf' hs w, hv, this]
theorem oneCell_encs {cs : List S} : ∀ v ∈ encs cs, v.oneCell' = true := by
  intro v hv
  simp only [encs, List.mem_map] at hv
  obtain ⟨x, _, rfl⟩ := hv
  exact oneCell_enc x
theorem store_sim {B : Nat} {M : List Reg} (h : Rel X B M φ σ a w) {T : TypeId} {n o off : Nat} {v : V} {u : Value} {ob ob' : Ob} {l : Loc} (hs : sizeIs P T n = true)
    (hob : σ.objs o = some ob) (hφ : φ o = some l) (hv : VRel X φ w v u) (hst : storeO n v off ob = some ob') :
    ∃ w', (storeVar T ⟨l.1, l.2 + off, none⟩ u).run P w = .ok () w' ∧ Does X σ { v := .undef, puts := [(o, ob')] } φ φ w w' Go.undef := by
  obtain ⟨hnI, hlt, hown⟩ := h.own o ob l hob hφ
  clear hown
  obtain ⟨l', hφ', hobr⟩ := h.objs o ob hob
  rw [hφ] at hφ'; cases hφ'
  have keepV : ∀ (vs : List Value) (o' : Nat) {x : V} {z : Value}, VRel X φ w x z → VRel X φ (w.setCells l.1 o' vs) x z := fun vs o' _ _ hx =>
    VRel.keep (fun _ => rfl) (setCells_shape _ _ _ _) (fun b hb => setCells_other l.1 vs o' w b (fun e => hnI (e ▸ hb))) hx
  unfold storeO at hst
  split at hst
  · -- plain cells
    rename_i p cs
    obtain ⟨c, T', fz, hblk, hle, hr⟩ := hobr
    split at hst
    · rename_i xs hc
      split at hst
      · rename_i hcond
        obtain ⟨rfl, hoff⟩ := hcond
        cases hst
        have hcells := cellsOf_rel hv hc
        have hth : w.there l.1 (l.2 + off) xs.length := blk_there hblk (by omega)
        refine ⟨_, run_storeVar_list (vs := encs xs) (by rw [encs_length]; exact hs) hcells oneCell_encs (by rw [encs_length]; exact hth), ?_⟩
        refine Does.write hob hφ hlt ?_ ?_ ?_ trivial
        · obtain ⟨c', h1, h2⟩ := blk_keep hblk (setCells_shape l.1 (encs xs) (l.2 + off) w)
          refine ⟨c', T', fz, h1, ?_, range_store hr hoff hth⟩
          simp only [List.length_append, List.length_take, List.length_drop]
          omega
        · have hlen : (cs.take off ++ xs ++ cs.drop (off + xs.length)).length = cs.length := by
            simp only [List.length_append, List.length_take, List.length_drop]
            omega
          cases p with
          | true => simp only [parLen, hlen]
          | false => rfl
        · intro m hm
          rw [encs_length]
          cases p with
          | true => simp only [parLen, Option.some.injEq] at hm; omega
          | false => cases hm
      · cases hst
    · rename_i hc
      split at hst
      · cases hst
      · cases hst
      · cases hst
      · rename_i h1 h2 h3
        split at hst
        · rename_i hcond
          obtain ⟨rfl, rfl, hcl, rfl⟩ := hcond
          cases hst
          obtain ⟨k1, k2⟩ := cells_of_ref hv hc (fun vs e => h1 vs e) (fun e => h2 e) (fun e => h3 e)
          have hth : w.there l.1 (l.2 + 0) 1 := blk_there hblk (by omega)
          refine ⟨_, run_storeVar_list (vs := [u]) hs (by rw [k1]) (by simpa using k2) hth, ?_⟩
          refine Does.write hob hφ hlt ?_ rfl (fun m hm => by simp [parLen] at hm) trivial
          obtain ⟨c', g1, g2⟩ := blk_keep hblk (setCells_shape l.1 [u] (l.2 + 0) w)
          refine ⟨c', T', fz, u, g1, ?_, k2, keepV _ _ hv⟩
          have := World.cell?_setCells_in l.1 [u] (l.2 + 0) w (fun i hi => (hth i hi).1) 0 (by simp)
          rw [World.cell?] at this
          simp only [g1.1] at this
          simpa using this
        · cases hst
  · -- a variable
    rename_i x
    obtain ⟨c, T', fz, u0, hblk, hu0, _, _⟩ := hobr
    have hlt' : l.2 < c.size := (Array.getElem?_eq_some_iff.1 hu0).1
    split at hst
    · rename_i hcond
      obtain ⟨rfl, rfl⟩ := hcond
      have hth : w.there l.1 (l.2 + 0) 1 := blk_there hblk (by omega)
      split at hst
      · rename_i y hc
        cases hst
        have hcells := cellsOf_rel hv hc
        refine ⟨_, run_storeVar_list (vs := encs [y]) hs hcells oneCell_encs hth, ?_⟩
        refine Does.write hob hφ hlt ?_ rfl (fun m hm => by simp [parLen] at hm) trivial
        obtain ⟨c', g1, g2⟩ := blk_keep hblk (setCells_shape l.1 (encs [y]) (l.2 + 0) w)
        refine ⟨c', T', fz, g1, by simp; omega, fun j v hj => ?_⟩
        have hj0 : j = 0 := by
          have := (List.getElem?_eq_some_iff.1 hj).1
          simp [encs] at this; exact this
        subst hj0
        have := World.cell?_setCells_in l.1 (encs [y]) (l.2 + 0) w (fun i hi => (hth i hi).1) 0 (by simp [encs])
        rw [show l.2 + 0 + 0 = l.2 + 0 from rfl] at this
        rw [this, ← hj]
        rfl
      · cases hst
      · rename_i hc
        split at hst
        · cases hst
        · cases hst
        · cases hst
        · rename_i h1 h2 h3
          cases hst
          obtain ⟨k1, k2⟩ := cells_of_ref hv hc (fun vs e => h1 vs e) (fun e => h2 e) (fun e => h3 e)
          refine ⟨_, run_storeVar_list (vs := [u]) hs (by rw [k1]) (by simpa using k2) hth, ?_⟩
          refine Does.write hob hφ hlt ?_ rfl (fun m hm => by simp [parLen] at hm) trivial
          obtain ⟨c', g1, g2⟩ := blk_keep hblk (setCells_shape l.1 [u] (l.2 + 0) w)
          refine ⟨c', T', fz, u, g1, ?_, k2, keepV _ _ hv⟩
          have := World.cell?_setCells_in l.1 [u] (l.2 + 0) w (fun i hi => (hth i hi).1) 0 (by simp)
          rw [World.cell?] at this
          simp only [g1.1] at this
          simpa using this
    · cases hst
  · cases hst
  · cases hst
theorem setObj_same {w : World} {r : Nat} {o' : Obj} {b : Nat} (h : b ≠ r) : Same w { w with heap := w.heap.setIfInBounds r o' } b := by
  show (w.heap.setIfInBounds r o')[b]? = w.heap[b]?
  simp [Ne.symm h]
theorem born_push {ents : Array MapEntry} {clock : Nat} (hborn : ∀ (j : Nat) (e : MapEntry), ents[j]? = some e → e.born = j) (hclock : clock = ents.size) (k v : Value) :
    ∀ (j : Nat) (e : MapEntry), (ents.push { key := k, val := v, born := clock })[j]? = some e → e.born = j := fun j e he => by
  rw [Array.getElem?_push] at he
  split at he
  · rename_i e0; cases he; rw [e0]; exact hclock
  · exact hborn j e he
theorem born_modify {ents : Array MapEntry} {j0 : Nat} {f : MapEntry → MapEntry} (hborn : ∀ (j : Nat) (e : MapEntry), ents[j]? = some e → e.born = j) (hf : ∀ e, (f e).born = e.born) :
    ∀ (j : Nat) (e : MapEntry), (ents.modify j0 f)[j]? = some e → e.born = j := fun j e he => by
  rw [Array.getElem?_modify] at he
  split at he
  · rename_i e0
    rw [Option.map_eq_some_iff] at he
    obtain ⟨e1, h1, rfl⟩ := he
    rw [hf]; exact hborn j e1 h1
  · exact hborn j e he
theorem mput_sim {B : Nat} {M : List Reg} (h : Rel X B M φ σ a w) {T : TypeId} {ks : List SK} {vn o : Nat} {k v : V} {u uk uv : Value} {es : List (List S × List S)} {key val : List S} (hT : okMap P T ks vn = true)
    (hx : VRel X φ w (.a (.mp o)) u) (hk : VRel X φ w k uk) (hv : VRel X φ w v uv) (hob : σ.objs o = some (.map ks es)) (h1 : cellsA (ks.length != 1) k = some key) (h2 : cellsA (vn != 1) v = some val) (h3 : hasKs ks key = true) (h4 : val.length = vn) :
    ∃ w', (Instr.mapUpdate T u uk uv).run P w = .ok () w' ∧ Does X σ { v := .undef, puts := [(o, .map ks (mset key val es))] } φ φ w w' Go.undef := by
  obtain ⟨l, g1, rfl⟩ := hx
  obtain ⟨l', g1', ents, clock, hb, hents, hkeys, hborn, hclock⟩ := h.objs o _ hob
  rw [g1] at g1'; cases g1'
  obtain ⟨hnI, hlt, hown⟩ := h.own o _ l hob g1
  clear hown
  obtain ⟨kt, et, hu, hko, hst, hl, hre⟩ := okMap_spec hT
  obtain ⟨meq, mck⟩ := map_equal hko hst hl
  have e1 := cellsA_rep1 hk h1 h3
  have e2 := cellsA_rep1' hv h2 h4
  subst e1 e2
  obtain ⟨fr, hfr, hcase⟩ := findAsking_sim (P := P) (w := w) (t := kt) meq h3 ents.toList es 0 hents hkeys
  have hfk : (Instr.findKey kt (rep1 key) ents.toList).run P w = .ok fr w := by
    rw [run_findKey_eq w (by obtain ⟨fs, hs⟩ := hst; simp [hs])]; exact hfr
  have hmk : ∀ p ∈ mset key val es, hasKs ks p.1 = true := by
    intro p hp
    rcases hcase with ⟨_, _, e⟩ | ⟨j, k', uv, _, _, _, _, e⟩
    · rw [e, List.mem_append] at hp
      rcases hp with hp | hp
      · exact hkeys p hp
      · rw [List.mem_singleton] at hp; subst hp; exact h3
    · rw [e] at hp
      rcases List.mem_or_eq_of_mem_set hp with hp | hp
      · exact hkeys p hp
      · subst hp; exact h3
  -- what is written
  obtain ⟨ents', clock', hrun, hents'⟩ : ∃ ents' clock', (Instr.mapUpdate T (.map (some l.1)) (rep1 key) (rep1 val)).run P w = .ok () { w with heap := w.heap.setIfInBounds l.1 (.map ents' clock') } ∧
      ents'.toList.map (fun e => (e.key, e.val)) = (mset key val es).map (fun p => (rep1 p.1, rep1 p.2)) ∧ (∀ (j : Nat) (e : MapEntry), ents'[j]? = some e → e.born = j) ∧ clock' = ents'.size := by
    rcases hcase with ⟨c1, rfl, c3⟩ | ⟨j, k', ov, rfl, c2, c3, c4, c5⟩
    · refine ⟨ents.push { key := rep1 key, val := rep1 val, born := clock }, clock + 1, ?_, ?_, born_push hborn hclock _ _, by rw [Array.size_push, hclock]⟩
      · simp [Instr.mapUpdate, run_underlying hu, MapKept.run_getObj_map hb, mck, h3, hfk, MapKept.run_setObj_map _ hb]
      · rw [c3]; simp [hents]
    · have hjl : j < ents.size := by
        have h5 := congrArg List.length hents
        simp only [List.length_map, Array.length_toList] at h5
        have := (List.getElem?_eq_some_iff.1 c3).1
        omega
      have hkj : (ents[j]'hjl).key = rep1 k' ∧ (ents[j]'hjl).val = rep1 ov := by
        have h5 := congrArg (fun l => l[j]?) hents
        simp only [List.getElem?_map, c3, Option.map_some, Array.getElem?_toList] at h5
        rw [Array.getElem?_eq_getElem hjl] at h5
        simpa using h5
      have hsb : Instr.sameBits 10000 (rep1 k') (rep1 key) = true := sameBits_rep 9998 h3 (hkeys _ (List.mem_of_getElem? c3)) c4 hl
      refine ⟨ents.modify j fun e => { e with key := rep1 key, val := rep1 val }, clock, ?_, ?_, born_modify hborn (fun _ => rfl), by rw [Array.size_modify, hclock]⟩
      · simp [Instr.mapUpdate, run_underlying hu, MapKept.run_getObj_map hb, mck, h3, hfk, MapKept.run_setObj_map _ hb, hjl, hkj.1, Instr.keyThatStays, hsb]
      · rw [c5]
        apply List.ext_getElem?
        intro i
        have h5 := congrArg (fun l => l[i]?) hents
        simp only [List.getElem?_map, Array.getElem?_toList] at h5 ⊢
        rw [Array.getElem?_modify]
        by_cases hij : j = i
        · subst hij
          rw [List.getElem?_set_self (List.getElem?_eq_some_iff.1 c3).1, Array.getElem?_eq_getElem hjl]
          simp
        · rw [List.getElem?_set_ne hij, if_neg hij]
          exact h5
  refine ⟨_, hrun, ?_⟩
  obtain ⟨q1, q2⟩ := MapKept.heap_set (o' := .map ents' clock') hb
  refine ⟨rfl, rfl, rfl, by show w.heap.size ≤ (w.heap.setIfInBounds _ _).size; simp, fun b c T' fz hc => ?_, fun _ _ => rfl, fun b _ hs => setObj_same fun e => hs o _ l hob (by simp [lookP]) g1 e.symm, fun o1 ob1 hp => ?_, fun o1 o2 ob1 ob2 l1 l2 p1 p2 _ _ _ => ?_, trivial, fun o1 ob1 n l1 p1 p2 _ => ?_⟩
  · have hne : b ≠ l.1 := fun e => by subst e; rw [hb] at hc; cases hc
    exact ⟨c, (setObj_same hne).trans hc, rfl⟩
  · obtain ⟨rfl, rfl⟩ := lookP_one hp
    exact ⟨l, g1, ⟨ents', clock', q1, hents'.1, hmk, hents'.2⟩, by show l.1 < (w.heap.setIfInBounds _ _).size; simpa using hlt, .inr ⟨o1, _, l, hob, g1, rfl, .inl ⟨rfl, rfl, rfl⟩⟩⟩
  · rw [(lookP_one p1).1, (lookP_one p2).1]
  · obtain ⟨rfl, rfl⟩ := lookP_one p1
    cases p2
theorem map_does {B : Nat} {M : List Reg} (h : Rel X B M φ σ a w) {o : Nat} {ks : List SK} {es es' : List (List S × List S)} {l : Loc} {ents ents' : Array MapEntry} {clock clock' : Nat} {v : V} {u : Value}
    (hob : σ.objs o = some (.map ks es)) (g1 : φ o = some l) (hb : w.heap[l.1]? = some (.map ents clock)) (hm : mapAt { w with heap := w.heap.setIfInBounds l.1 (.map ents' clock') } l.1 ks es')
    (hv : VRel X φ { w with heap := w.heap.setIfInBounds l.1 (.map ents' clock') } v u) :
    Does X σ { v := v, puts := [(o, .map ks es')] } φ φ w { w with heap := w.heap.setIfInBounds l.1 (.map ents' clock') } u := by
  obtain ⟨hnI, hlt, hown⟩ := h.own o _ l hob g1
  clear hown
  refine ⟨rfl, rfl, rfl, by show w.heap.size ≤ (w.heap.setIfInBounds _ _).size; simp, fun b c T' fz hc => ?_, fun _ _ => rfl, fun b _ hs => setObj_same fun e => hs o _ l hob (by simp [lookP]) g1 e.symm, fun o1 ob1 hp => ?_, fun o1 o2 ob1 ob2 l1 l2 p1 p2 _ _ _ => ?_, hv, fun o1 ob1 n l1 p1 p2 _ => ?_⟩
  · have hne : b ≠ l.1 := fun e => by subst e; rw [hb] at hc; cases hc
    exact ⟨c, (setObj_same hne).trans hc, rfl⟩
  · obtain ⟨rfl, rfl⟩ := lookP_one hp
    exact ⟨l, g1, hm, by show l.1 < (w.heap.setIfInBounds _ _).size; simpa using hlt, .inr ⟨o1, _, l, hob, g1, rfl, .inl ⟨rfl, rfl, rfl⟩⟩⟩
  · rw [(lookP_one p1).1, (lookP_one p2).1]
  · obtain ⟨rfl, rfl⟩ := lookP_one p1
    cases p2
theorem midx_none : ∀ {es : List (List S × List S)} {key : List S}, mfind key es = none → midx key es = es.length
  | [], _, _ => rfl
  | (k', v) :: r, key, h => by
    simp only [mfind] at h
    split at h
    · cases h
    · rename_i e; simp only [midx, e, Bool.false_eq_true, if_false, List.length_cons, midx_none h]
theorem findAsking_at {t : TypeId} {ks : List SK} {key : List S} (heq : ∀ xs ys w, hasKs ks xs = true → hasKs ks ys = true → (Op.equal t (rep1 xs) (rep1 ys)).run P w = .ok (eqSs xs ys) w) (hk : hasKs ks key = true) :
    ∀ (ents : List MapEntry) (es : List (List S × List S)) (i : Nat), ents.map (fun e => (e.key, e.val)) = es.map (fun p => (rep1 p.1, rep1 p.2)) → (∀ p ∈ es, hasKs ks p.1 = true) →
      ((Instr.findAsking t (rep1 key) ents i).run P w = .ok none w ∧ mfind key es = none) ∨
        ∃ k' u, (Instr.findAsking t (rep1 key) ents i).run P w = .ok (some (i + midx key es, rep1 u)) w ∧ mfind key es = some u ∧ es[midx key es]? = some (k', u) ∧ eqSs key k' = true
  | [], [], i, _, _ => .inl ⟨by simp [Instr.findAsking], rfl⟩
  | [], _ :: _, _, h, _ => by simp at h
  | _ :: _, [], _, h, _ => by simp at h
  | e :: ents, (k', u) :: es, i, h, hks => by
    simp only [List.map_cons, List.cons.injEq, Prod.mk.injEq] at h
    obtain ⟨⟨h1, h2⟩, h3⟩ := h
    have hq := heq key k' w hk (hks _ (List.mem_cons_self ..))
    rw [← h1] at hq
    cases hb : eqSs key k' with
    | true =>
      rw [hb] at hq
      exact .inr ⟨k', u, by simp [Instr.findAsking, hq, h2, midx, hb], by simp [mfind, hb], by simp [midx, hb], hb⟩
    | false =>
      rw [hb] at hq
      rcases findAsking_at heq hk ents es (i + 1) h3 (fun p hp => hks p (List.mem_cons_of_mem _ hp)) with ⟨e1, e2⟩ | ⟨k2, u2, e1, e2, e3, e4⟩
      · exact .inl ⟨by simp [Instr.findAsking, hq, e1], by simp [mfind, hb, e2]⟩
      · refine .inr ⟨k2, u2, ?_, by simp [mfind, hb, e2], by simpa [midx, hb] using e3, e4⟩
        simp only [midx, hb, Bool.false_eq_true, if_false]
        rw [show i + (midx key es + 1) = i + 1 + midx key es by omega]
        simpa [Instr.findAsking, hq] using e1
theorem ment_sim {B : Nat} {M : List Reg} (h : Rel X B M φ σ a w) {T : TypeId} {ks : List SK} {vn o : Nat} {zv : List S} {k : V} {u uk : Value} {es : List (List S × List S)} {key : List S} (hT : okMap P T ks vn = true)
    (hz : (match mapTys P T with | some (_, e) => zeroEq P e zv | none => false) = true) (hx : VRel X φ w (.a (.mp o)) u) (hk : VRel X φ w k uk) (hob : σ.objs o = some (.map ks es)) (h1 : cellsA (ks.length != 1) k = some key) (h3 : hasKs ks key = true) :
    ∃ v' w', (Instr.mapEntry T u uk).run P w = .ok v' w' ∧ Does X σ { v := .tup [.dead, .d (.s (.int .i64 (midx key es : Nat)))], puts := [(o, .map ks (mentry key zv es))] } φ φ w w' v' := by
  obtain ⟨l, g1, rfl⟩ := hx
  obtain ⟨l', g1', ents, clock, hb, hents, hkeys, hborn, hclock⟩ := h.objs o _ hob
  rw [g1] at g1'; cases g1'
  obtain ⟨kt, et, hu, hko, hst, hl, hre⟩ := okMap_spec hT
  obtain ⟨meq, mck⟩ := map_equal hko hst hl
  have e1 := cellsA_rep1 hk h1 h3
  subst e1
  have hz' : zeroEq P et zv = true := by simpa [mapTys, hu] using hz
  have z1 := zeroEq_run hz'
  have hlen : ents.size = es.length := by
    have h5 := congrArg List.length hents
    simpa using h5
  have hfe : ∀ r, (Instr.findAsking kt (rep1 key) ents.toList).run P w = .ok r w → (Instr.findKey kt (rep1 key) ents.toList).run P w = .ok r w := fun r hr => by
    rw [run_findKey_eq w (by obtain ⟨fs, hs⟩ := hst; simp [hs])]; exact hr
  rcases findAsking_at (P := P) (w := w) (t := kt) meq h3 ents.toList es 0 hents hkeys with ⟨f1, f2⟩ | ⟨k', ov, f1, f2, f3, f4⟩
  · have hfk := hfe _ f1
    have hE : mentry key zv es = es ++ [(key, zv)] := by simp [mentry, f2]
    have hI : midx key es = clock := by rw [midx_none f2, hclock, hlen]
    rw [hE, hI]
    refine ⟨.tuple #[rep1 zv, .int .i64 (clock : Nat)], { w with heap := w.heap.setIfInBounds l.1 (.map (ents.push { key := rep1 key, val := rep1 zv, born := clock }) (clock + 1)) }, ?_, map_does h hob g1 hb ?_ ?_⟩
    · simp [Instr.mapEntry, run_underlying hu, MapKept.run_getObj_map hb, mck, h3, hfk, MapKept.run_setObj_map _ hb, z1, goInt]
    · obtain ⟨q1, q2⟩ := MapKept.heap_set (o' := .map (ents.push { key := rep1 key, val := rep1 zv, born := clock }) (clock + 1)) hb
      refine ⟨_, _, q1, by simp [hents], fun p hp => ?_, born_push hborn hclock _ _, by rw [Array.size_push, hclock]⟩
      rw [List.mem_append, List.mem_singleton] at hp
      rcases hp with hp | rfl
      · exact hkeys p hp
      · exact h3
    · exact ⟨[rep1 zv, .int .i64 (clock : Nat)], rfl, .cons trivial (.cons (DRel.s (.int .i64 (clock : Nat))) .nil)⟩
  · rw [Nat.zero_add] at f1
    have hfk := hfe _ f1
    have hE : mentry key zv es = es := by simp [mentry, f2]
    rw [hE]
    have hjl : midx key es < ents.size := by
      have := (List.getElem?_eq_some_iff.1 f3).1
      omega
    have hkj : (ents[midx key es]'hjl).key = rep1 k' ∧ (ents[midx key es]'hjl).val = rep1 ov := by
      have h5 := congrArg (fun l => l[midx key es]?) hents
      simp only [List.getElem?_map, f3, Option.map_some, Array.getElem?_toList] at h5
      rw [Array.getElem?_eq_getElem hjl] at h5
      simpa using h5
    have hbj : (ents[midx key es]'hjl).born = midx key es := hborn _ _ (Array.getElem?_eq_getElem hjl)
    have hk' := hkeys _ (List.mem_of_getElem? f3)
    have hsb : Instr.sameBits 10000 (rep1 k') (rep1 key) = true := sameBits_rep 9998 h3 hk' f4 hl
    have hrk : rep1 key = rep1 k' := by
      have e3 := (sameBits_Ss 0 h3 hk' f4).1
      have hn : ∀ {xs : List S}, hasKs ks xs = true → rep1 xs = .agg (encs xs).toArray := fun {xs} hx => by
        have := hasKs_length hx
        unfold rep1
        split
        · simp at this; exact (hl this.symm).elim
        · rfl
      rw [hn h3, hn hk', e3]
    refine ⟨.tuple #[rep1 ov, .int .i64 (midx key es : Nat)], { w with heap := w.heap.setIfInBounds l.1 (.map (ents.modify (midx key es) fun e => { e with key := rep1 key }) clock) }, ?_, map_does h hob g1 hb ?_ ?_⟩
    · simp [Instr.mapEntry, run_underlying hu, MapKept.run_getObj_map hb, mck, h3, hfk, MapKept.run_setObj_map _ hb, hjl, hkj.1, hbj, Instr.keyThatStays, hsb, goInt]
    · obtain ⟨q1, q2⟩ := MapKept.heap_set (o' := .map (ents.modify (midx key es) fun e => { e with key := rep1 key }) clock) hb
      refine ⟨_, _, q1, ?_, hkeys, born_modify hborn (fun _ => rfl), by rw [Array.size_modify, hclock]⟩
      rw [← hents]
      apply List.ext_getElem?
      intro i
      simp only [List.getElem?_map, Array.getElem?_toList]
      rw [Array.getElem?_modify]
      by_cases hij : midx key es = i
      · subst hij
        rw [if_pos rfl, Array.getElem?_eq_getElem hjl]
        simp [hkj.1, hrk]
      · rw [if_neg hij]
    · exact ⟨[rep1 ov, .int .i64 (midx key es : Nat)], rfl, .cons trivial (.cons (DRel.s (.int .i64 (midx key es : Nat))) .nil)⟩
theorem mest_sim {B : Nat} {M : List Reg} (h : Rel X B M φ σ a w) {ks : List SK} {vn o : Nat} {v : V} {u us uv : Value} {es : List (List S × List S)} {val : List S} {j : Int}
    (hx : VRel X φ w (.a (.mp o)) u) (hs : VRel X φ w (.a (.d (.s (.int .i64 j)))) us) (hv : VRel X φ w v uv) (hob : σ.objs o = some (.map ks es)) (h2 : cellsA (vn != 1) v = some val) (h4 : val.length = vn) (hj : 0 ≤ j ∧ j.toNat < es.length) :
    ∃ w', (∀ T : TypeId, (Instr.entryStore T u us uv).run P w = .ok () w') ∧ Does X σ { v := .undef, puts := [(o, .map ks (mstore j.toNat val es))] } φ φ w w' Go.undef := by
  obtain ⟨l, g1, rfl⟩ := hx
  obtain ⟨l', g1', ents, clock, hb, hents, hkeys, hborn, hclock⟩ := h.objs o _ hob
  rw [g1] at g1'; cases g1'
  have e2 := cellsA_rep1' hv h2 h4
  subst e2
  obtain rfl : us = .int .i64 j := sv_rel hs
  have hlen : ents.size = es.length := by
    have h5 := congrArg List.length hents
    simpa using h5
  obtain ⟨J, rfl⟩ : ∃ J : Nat, j = J := ⟨j.toNat, by omega⟩
  rw [Int.toNat_natCast] at hj ⊢
  have hjl : J < ents.size := by omega
  have hfi : ents.findIdx? (fun e => (e.born : Int) == (J : Int)) = some J := by
    rw [Array.findIdx?_eq_some_iff_getElem]
    refine ⟨hjl, by have := hborn J _ (Array.getElem?_eq_getElem hjl); simp [this], fun i hi => ?_⟩
    have := hborn i _ (Array.getElem?_eq_getElem (show i < ents.size by omega))
    simp only [this, beq_iff_eq]; omega
  have hE : mstore J val es = es.set J ((es[J]'(by omega)).1, val) := by
    unfold mstore; rw [List.getElem?_eq_getElem (by omega)]
  refine ⟨{ w with heap := w.heap.setIfInBounds l.1 (.map (ents.modify J fun e => { e with val := rep1 val }) clock) }, ?_, map_does h hob g1 hb ?_ trivial⟩
  · intro T
    simp [Instr.entryStore, MapKept.run_getObj_map hb, MapKept.run_setObj_map _ hb, asInt, asIntOf, hfi]
  · obtain ⟨q1, q2⟩ := MapKept.heap_set (o' := .map (ents.modify J fun e => { e with val := rep1 val }) clock) hb
    refine ⟨_, _, q1, ?_, fun p hp => ?_, born_modify hborn (fun _ => rfl), by rw [Array.size_modify, hclock]⟩
    · rw [hE]
      apply List.ext_getElem?
      intro i
      have h5 := congrArg (fun l => l[i]?) hents
      simp only [List.getElem?_map, Array.getElem?_toList] at h5 ⊢
      rw [Array.getElem?_modify]
      by_cases hij : J = i
      · subst hij
        rw [List.getElem?_set_self (by omega), if_pos rfl]
        rw [List.getElem?_eq_getElem (by omega), Array.getElem?_eq_getElem hjl] at h5
        rw [Array.getElem?_eq_getElem hjl]
        simp only [Option.map_some, Option.some.injEq, Prod.mk.injEq] at h5 ⊢
        exact ⟨h5.1, trivial⟩
      · rw [List.getElem?_set_ne hij, if_neg hij]
        exact h5
    · rw [hE] at hp
      rcases List.mem_or_eq_of_mem_set hp with hp | hp
      · exact hkeys p hp
      · subst hp
        have hJ : J < es.length := by omega
        show hasKs ks (es[J]'hJ).1 = true
        exact hkeys (es[J]'hJ) (List.getElem_mem hJ)
end
end Go.DM

/- append, clear. -/
namespace Go.DM
variable [Tok]
section
variable {P : Program} {X : Cx} {φ : Nat → Option Loc} {w : World} {σ : St} {a : Act}
theorem range_append {b base : Nat} {cs xs : List S} (h : w.rangeAt b base (encs cs)) (ht : w.there b (base + cs.length) xs.length) :
    (w.setCells b (base + cs.length) (encs xs)).rangeAt b base (encs (cs ++ xs)) := fun j v hv => by
  rw [encs_append] at hv
  by_cases h1 : j < cs.length
  · rw [List.getElem?_append_left (by rw [encs_length]; exact h1)] at hv
    rw [World.cell?_setCells_out b _ _ _ _ (fun _ _ => Or.inl (by show base + j < base + cs.length; omega))]
    exact h j v hv
  · rw [List.getElem?_append_right (by rw [encs_length]; omega), encs_length] at hv
    have hj : j - cs.length < (encs xs).length := (List.getElem?_eq_some_iff.1 hv).1
    have := World.cell?_setCells_in b (encs xs) (base + cs.length) w (fun i hi => (ht i (by simpa [encs] using hi)).1) (j - cs.length) hj
    rw [show base + cs.length + (j - cs.length) = base + j by omega] at this
    rw [this, ← hv, List.getElem?_eq_getElem]
theorem src_of {es m : Nat} {tx : TypeId} {x : Value} {ys : List S} (hk : (sliceOf P tx).isSome = true ∨ isStr P tx = true) (hl : ys.length = m * es)
    (hc : (∃ p c, x = .slice (some p) m c ∧ p.spot = none ∧ w.rangeAt p.block p.off (encs ys) ∧ ys ≠ []) ∨ (∃ p c, x = .slice p m c ∧ ys = [] ∧ (m = 0 ∨ es = 0)) ∨ (∃ s : List UInt8, x = .string ⟨s.toArray⟩ ∧ es = 1 ∧ m = s.length ∧ ys = s.map fun b => .int .u8 b.toNat))
    (h0 : es ≠ 0) (hkind : (∃ s : List UInt8, x = .string ⟨s.toArray⟩) → True) : Src P es tx x m (encs ys) w := by
  have hk' : (∃ e', P.underlying tx = some (.slice e')) ∨ P.underlying tx = some .string := by
    rcases hk with h | h
    · obtain ⟨e, he⟩ := Option.isSome_iff_exists.1 h
      exact .inl ⟨e, sliceOf_eq he⟩
    · exact .inr (isStr_eq h)
  rcases hc with ⟨⟨pb, po, ps⟩, c, rfl, hp, hr, _⟩ | ⟨p, c, rfl, rfl, hm⟩ | ⟨s, rfl, rfl, rfl, rfl⟩
  · simp only at hp hr
    subst hp
    have hcell : ∀ w' : World, w'.heap = w.heap → ∀ j v, (encs ys)[j]? = some v → w'.cell? ((⟨pb, po, none⟩ : Addr).add j) = some v := fun w' e j v hj => by
      rw [Addr.add_mid, ← hr j v hj]
      simp [World.cell?, e]
    exact ⟨hk', fun _ => rfl, run_firstCells_some w es m _ m c _ (by rw [encs_length]; exact hl) (hcell w rfl), run_firstCells_some w.drew es m _ m c _ (by rw [encs_length]; exact hl) (hcell w.drew rfl), by rw [encs_length]; exact hl, oneCell_encs⟩
  · obtain rfl : m = 0 := by
      rcases hm with h | h
      · exact h
      · exact (h0 h).elim
    have : ∀ w' : World, (Builtin.firstCells es 0 (.slice p 0 c)).run P w' = .ok (encs []).toArray w' := fun w' => by
      cases p with
      | none => exact run_firstCells_none w' es 0 0 c
      | some p => exact run_firstCells_some w' es 0 p 0 c [] (by simp) (fun j v hv => by simp at hv)
    exact ⟨hk', fun _ => rfl, this w, this w.drew, by simp [encs], fun u hu => by simp [encs] at hu⟩
  · have hb : byteCells ⟨s.toArray⟩ = encs (s.map fun b => .int .u8 b.toNat) := by
      simp [byteCells, encs, enc_int]
    have hsz : (⟨s.toArray⟩ : ByteArray).size = s.length := rfl
    refine ⟨hk', fun _ => rfl, ?_, ?_, ?_, oneCell_encs⟩
    · rw [← hb]; exact firstCells_string ⟨s.toArray⟩ w
    · rw [← hb]; exact firstCells_string ⟨s.toArray⟩ w.drew
    · simp [encs]
theorem append_sim {B : Nat} {M : List Reg} (h : Rel X B M φ σ a w) {T T' ty e : TypeId} {i : TypeInfo} {z : Value} {es : Nat} {x y : V} {u v : Value} {dst : Option Nat} {r : Dl}
    (he : sliceOf P T = some e) (hi : P.info? e = some i) (hz : i.zero = some z) (hsz : sizeIs P e es = true) (hzs : z.cells.size = es) (h0 : es ≠ 0) (hby : bytesOk P e es = true)
    (hk : (sliceOf P T').isSome = true ∨ isStr P T' = true) (hx : VRel X φ w x u) (hy : VRel X φ w y v) (hr : append σ dst es x y = some r) :
    ∃ z' w', (Builtin.append_ #[T, T'] ty #[u, v]).run P w = .ok z' w' ∧ ∃ φ', Does X σ r φ φ' w w' z' := by
  have hu := sliceOf_eq he
  have hsize : i.size = es := by
    have := sizeIs_eq hsz
    rw [hi] at this
    simpa using this
  have hbytes : i.bytes ≤ 16 * (es + 1) := by
    unfold bytesOk at hby
    rw [hi] at hby
    simpa using hby
  unfold append at hr
  split at hr
  · cases hr
  · rename_i m ys hel
    obtain ⟨hyl, hc⟩ := elems_sim h.base hy hel
    have hsrc := src_of (P := P) (tx := T') hk hyl hc h0 (fun _ => trivial)
    have hfit : ∀ n sc : Nat, sc < n + m → (n + m) * (es + 1) ≤ big → Builtin.nextslicecap (n + m) sc * i.bytes ≤ 281474976710656 ∧ ((n + m : Nat) : Int) ≤ 9223372036854775807 := by
      intro n sc hlt hb
      have h1 : (n + m) * i.bytes ≤ 17179869184 := by
        have h2 := Nat.mul_le_mul_left (n + m) hbytes
        have h3 : (n + m) * (16 * (es + 1)) = 16 * ((n + m) * (es + 1)) := by
          rw [Nat.mul_left_comm]
        simp only [big] at hb
        omega
      have h4 : n + m ≤ big := Nat.le_trans (Nat.le_mul_of_pos_right _ (by omega)) hb
      simp only [big] at h4
      exact ⟨growslice_fits hlt (by omega), by omega⟩
    split at hr
    · -- of the call's own
      rename_i o off n es'
      split at hr
      · rename_i cs hob
        split at hr
        · rename_i hcond
          obtain ⟨rfl, hle, hb⟩ := hcond
          cases hr
          obtain ⟨l, ad, cap, g1, rfl, g3, g4, g5⟩ := hx
          obtain ⟨l', g1', hobr⟩ := h.objs o _ hob
          rw [g1] at g1'; cases g1'
          obtain ⟨hnI, hlt, hown⟩ := h.own o _ l hob g1
          obtain ⟨c, T0, fz, hblk, hcl, hrng⟩ := hobr
          obtain ⟨c5, T5, fz5, hb5, hroom⟩ := g5
          rw [hblk.1] at hb5
          cases hb5
          have holds : w.rangeAt l.1 (l.2 + off) (encs ((cs.drop off).take (n * es))) := rangeAt_sub hrng off (n * es)
          have hol : ((cs.drop off).take (n * es)).length = n * es := by rw [List.length_take, List.length_drop]; omega
          by_cases hfits : n + m ≤ cap
          · -- there is room
            by_cases hcap : cap = 0
            · -- nothing at all
              subst hcap
              obtain rfl : n = 0 := by omega
              obtain rfl : m = 0 := by omega
              have hys : ys = [] := List.eq_nil_of_length_eq_zero (by simpa using hyl)
              subst hys
              have hrun := run_append_room_src (P := P) w T T' ty e i hu hi l.1 ad 0 0 v 0 (encs []) (by rw [hsize]; exact hsrc) (by omega) (fun j hj => by simp [encs] at hj) (fun j hj => by simp [encs] at hj)
              refine ⟨_, _, hrun, upd φ o (some (l.1, l.2 + off)), ?_⟩
              have hw : w.setCells l.1 (ad + 0 * i.size) (encs []) = w := rfl
              rw [hw]
              refine ⟨rfl, rfl, rfl, Nat.le_refl _, Shape.refl w, fun o' ho' => ?_, fun _ _ _ => rfl, fun o' ob' h1 => ?_, fun o1 o2 _ _ _ _ h1 h2 _ _ _ => ?_, ?_, fun o' ob' n' l' h1 h2 _ => ?_⟩
              · have : o' ≠ o := by simpa using ho'
                simp [upd, this]
              · obtain ⟨rfl, rfl⟩ := lookP_one h1
                refine ⟨(l.1, l.2 + off), by simp [upd], ⟨c, T0, fz, hblk, by simp; omega, fun j v hv => by simp [encs] at hv⟩, hlt, .inr ⟨o', _, l, hob, g1, rfl, .inr ⟨by simp, rfl, rfl⟩⟩⟩
              · rw [(lookP_one h1).1, (lookP_one h2).1]
              · exact ⟨(l.1, l.2 + off), ad, 0, by simp [upd], rfl, by omega, fun h => by omega, ⟨c, T0, fz, hblk.1, by simp; omega⟩⟩
              · obtain ⟨rfl, rfl⟩ := lookP_one h1
                cases h2
            · have had := g4 hcap
              subst had
              have hmul : (n + m) * es ≤ cap * es := Nat.mul_le_mul_right es hfits
              rw [Nat.add_mul] at hmul
              have hth : w.there l.1 (l.2 + off + n * es) ys.length := blk_there hblk (by omega)
              have hrun := run_append_room_src (P := P) w T T' ty e i hu hi l.1 (l.2 + off) n cap v m (encs ys) (by rw [hsize]; exact hsrc) hfits
                (fun j hj => by rw [hsize]; exact (hth j (by simpa [encs] using hj)).1) (fun j hj => by rw [hsize]; exact (hth j (by simpa [encs] using hj)).2)
              rw [hsize] at hrun
              refine ⟨_, _, hrun, upd φ o (some (l.1, l.2 + off)), ?_⟩
              obtain ⟨k1, k2, k3, k4, _⟩ := setCells_keep l.1 (encs ys) (l.2 + off + n * es) w
              have hsh := setCells_shape l.1 (encs ys) (l.2 + off + n * es) w
              obtain ⟨c', q1, q2⟩ := blk_keep hblk hsh
              refine ⟨k1, k2, k3, by omega, hsh, fun o' ho' => ?_, fun b _ hb' => ?_, fun o' ob' h1 => ?_, fun o1 o2 _ _ _ _ h1 h2 _ _ _ => ?_, ?_, fun o' ob' n' l' h1 h2 _ => ?_⟩
              · have : o' ≠ o := by simpa using ho'
                simp [upd, this]
              · exact setCells_other l.1 (encs ys) _ w b (fun e => hb' o _ l hob (by simp [lookP]) g1 e.symm)
              · obtain ⟨rfl, rfl⟩ := lookP_one h1
                refine ⟨(l.1, l.2 + off), by simp [upd], ⟨c', T0, fz, q1, ?_, ?_⟩, by show l.1 < _; omega, .inr ⟨o', _, l, hob, g1, rfl, .inr ⟨by simp, rfl, rfl⟩⟩⟩
                · rw [List.length_append, hol]
                  show l.2 + off + _ ≤ _
                  omega
                · have := range_append (xs := ys) holds (by rw [hol]; exact hth)
                  rw [hol] at this
                  exact this
              · rw [(lookP_one h1).1, (lookP_one h2).1]
              · exact ⟨(l.1, l.2 + off), l.2 + off, cap, by simp [upd], rfl, hfits, fun _ => rfl, ⟨c', T0, fz, q1.1, by show l.2 + off + 0 + cap * es ≤ _; omega⟩⟩
              · obtain ⟨rfl, rfl⟩ := lookP_one h1
                cases h2
          · -- there is none
            have hlt' : cap < n + m := by omega
            obtain ⟨hf1, hf2⟩ := hfit n cap hlt' hb
            have hold : (Builtin.firstCells i.size n (.slice (some ⟨l.1, ad, none⟩) n cap)).run P w.drew = .ok (encs ((cs.drop off).take (n * es))).toArray w.drew := by
              rw [hsize]
              refine run_firstCells_some w.drew es n _ n cap _ (by rw [encs_length]; exact hol) (fun j v hv => ?_)
              rw [Addr.add_mid]
              have hj := (List.getElem?_eq_some_iff.1 hv).1
              rw [encs_length, hol] at hj
              have : cap ≠ 0 := by
                intro h0'
                subst h0'
                obtain rfl : n = 0 := by omega
                simp at hj
              rw [g4 this]
              exact holds j v hv
            have hrun := run_append_grow_src (P := P) w T T' ty e i z hu hi hz (some ⟨l.1, ad, none⟩) n cap (encs ((cs.drop off).take (n * es))) hold v m (encs ys) (by rw [hsize]; exact hsrc) hlt' hf2 hf1
            have hge := grownCap_ge w (n + m) cap e
            have hcells : (encs ((cs.drop off).take (n * es)) ++ encs ys).toArray ++ Builtin.zeroCells z.cells (grownCap w (n + m) cap e - (n + m)) = (encs ((cs.drop off).take (n * es) ++ ys) ++ (Builtin.zeroCells z.cells (grownCap w (n + m) cap e - (n + m))).toList).toArray := by
              apply Array.ext'
              simp [encs_append]
            rw [hcells] at hrun
            have hm := More.drew w (.cells (encs ((cs.drop off).take (n * es) ++ ys) ++ (Builtin.zeroCells z.cells (grownCap w (n + m) cap e - (n + m))).toList).toArray e)
            refine ⟨_, _, hrun, _, Does.fresh hm rfl (flat_new hm) ?_⟩
            refine ⟨(w.heap.size, 0), 0, grownCap w (n + m) cap e, by simp [upd], rfl, hge, fun _ => rfl, room_new hm ?_⟩
            simp only [List.size_toArray, List.length_append, encs_length, hol, hyl, Array.length_toList, size_zeroCells, hzs]
            rw [← Nat.add_mul, ← Nat.add_mul]
            show 0 + 0 + _ ≤ _
            rw [Nat.add_sub_cancel' hge]
            omega
        · cases hr
      · cases hr
    · -- nil
      rw [sv_rel hx, enc_nils]
      split at hr
      · rename_i hm0
        subst hm0
        cases hr
        have hys : ys = [] := List.eq_nil_of_length_eq_zero (by simpa using hyl)
        subst hys
        refine ⟨.slice none 0 0, w, ?_, φ, Does.quiet (sv_mk _)⟩
        have hs := hsrc
        rcases hs.kind with ⟨e', hk⟩ | hk <;> simp [Builtin.append_, run_underlying hu, run_underlying hk, run_sizeOf' hsz, hs.len, hs.cells]
      · rename_i hm0
        split at hr
        · rename_i hb
          cases dst with
          | none => cases hr
          | some d =>
            simp only [Option.map_some, Option.some.injEq] at hr
            subst hr
            obtain ⟨hf1, hf2⟩ := hfit 0 0 (by omega) (by simpa using hb)
            have hrun := run_append_grow_src (P := P) w T T' ty e i z hu hi hz none 0 0 [] (run_firstCells_none w.drew i.size 0 0 0) v m (encs ys) (by rw [hsize]; exact hsrc) (by omega) hf2 hf1
            have hge := grownCap_ge w (0 + m) 0 e
            have hcells : ([] ++ encs ys).toArray ++ Builtin.zeroCells z.cells (grownCap w (0 + m) 0 e - (0 + m)) = (encs ys ++ (Builtin.zeroCells z.cells (grownCap w (0 + m) 0 e - (0 + m))).toList).toArray := by
              apply Array.ext'
              simp
            rw [hcells] at hrun
            have hm := More.drew w (.cells (encs ys ++ (Builtin.zeroCells z.cells (grownCap w (0 + m) 0 e - (0 + m))).toList).toArray e)
            refine ⟨_, _, hrun, _, Does.fresh hm rfl (flat_new hm) ?_⟩
            refine ⟨(w.heap.size, 0), 0, grownCap w (0 + m) 0 e, by simp [upd], by simp, by omega, fun _ => rfl, room_new hm ?_⟩
            simp only [List.size_toArray, List.length_append, encs_length, hyl, Array.length_toList, size_zeroCells, hzs]
            rw [← Nat.add_mul]
            show 0 + 0 + _ ≤ _
            simp only [Nat.zero_add] at hge ⊢
            rw [Nat.add_sub_cancel' hge]
            omega
        · cases hr
    · cases hr
end
end Go.DM
