/- SY, part S: calls of the model's own functions: atomics, marks. Own work. -/
import Derived.Test.YthimgonpkhoodaaSyP
import Derived.Laws.LoneSync
namespace Go.Sy
open Go.RowKit
set_option linter.unusedVariables false
set_option linter.unusedSimpArgs false

/-- A function of the model's own: it returns. -/
theorem FnOb.ext {P : Program} {f : FuncId} {args : List SV} {H : SH} {K : SV → SH → Prop} (h : ∀ w, HSat w H → ∃ r H' w', (callFunc f (denL args).toArray).run P w = .ok (.value (SV.den r)) w' ∧ HSat w' H' ∧ Ext w H w' H' ∧ K r H') : FnOb P f args H K :=
  ⟨fun w hw => let ⟨r, H', w', h1, h2, h3, h4⟩ := h w hw; .inl ⟨_, w', h1, r, H', rfl, h2, h3, h4⟩⟩

/-- A block whose cells are its own, from its start. -/
def Blk.plain : Blk → Prop
  | .lit _ => True
  | .tab .. => True
  | _ => False
theorem BlkAt.plain {w : World} {b : Bs} {bk : Blk} (h : BlkAt w (b, bk)) (hp : bk.plain) : b.o = 0 ∧ CellsAt w b.n bk.cells := by
  cases bk <;> first | exact h.2 | exact hp.elim
theorem Blk.plain_fam {bk : Blk} (hp : bk.plain) : bk.isFam = false := by cases bk <;> first | rfl | exact hp.elim
theorem Blk.plain_own {bk : Blk} (hp : bk.plain) : bk.own := by cases bk <;> first | trivial | exact hp.elim
theorem cells_thaw {w : World} {b n : Nat} {cs : List SV} (h : CellsAt w b cs) (hn : n < cs.length) : w.frozen? ⟨b, n, none⟩ = false := by
  obtain ⟨e, fz, he, hf⟩ := h
  rcases hf with rfl | hf
  · simp [World.frozen?, he]
  · obtain ⟨lo, hi⟩ := fz
    simp only at hf
    simp only [World.frozen?, he, Bool.and_eq_false_imp, decide_eq_true_eq, decide_eq_false_iff_not]
    omega

/-- One cell is another one now. -/
def Blk.put (bk bk' : Blk) (n : Nat) (v : SV) : Prop := bk.plain ∧ bk.turned bk' ∧ bk'.cells = bk.cells.set n v ∧ n < bk.cells.length
theorem put_lit {cs : List SV} {n : Nat} {v : SV} (h : n < cs.length) : Blk.put (.lit cs) (.lit (cs.set n v)) n v := ⟨trivial, by simp [Blk.turned], rfl, h⟩
theorem put_ints {k : IntKind} {l : List Int} {n : Nat} {x : Int} (h : n < l.length) : Blk.put (.tab (encInt k) 1 l) (.tab (encInt k) 1 (l.set n x)) n (.int k x) := by
  have e : ∀ (l : List Int) (n : Nat), (l.set n x).flatMap (encInt k) = (l.flatMap (encInt k)).set n (.int k x) := by
    intro l
    induction l with
    | nil => intro n; rfl
    | cons a l ih =>
      intro n
      cases n with
      | zero => rfl
      | succ n => simp only [List.set_cons_succ, List.flatMap_cons, encInt, List.singleton_append]; rw [← ih n]
  have hl : ∀ l : List Int, (l.flatMap (encInt k)).length = l.length := fun l => by rw [flatMap_length (encInt k) 1 l (fun _ _ => rfl), Nat.mul_one]
  exact ⟨trivial, ⟨fun _ _ => rfl, by rw [hl, hl, List.length_set]⟩, e l n, by show n < (l.flatMap (encInt k)).length; rw [hl]; exact h⟩
theorem cells_ints {k : IntKind} {l : List Int} {n : Nat} {x : Int} (h : l[n]? = some x) : (Blk.tab (encInt k) 1 l).cells[n]? = some (.int k x) := by
  have := flatMap_getElem? (encInt k) 1 l (fun _ _ => rfl) n 0 x h (by omega)
  rw [Nat.mul_one, Nat.add_zero] at this
  exact this

theorem HSat.setOne {P : Program} {w : World} {H : SH} (hw : HSat w H) {i : Nat} {b : Bs} {bk bk' : Blk} (hi : H[i]? = some (b, bk)) {n : Nat} {v : SV} (hp : Blk.put bk bk' n v) (hv : v.one = true) :
    HSat (w.setCell ⟨b.n, b.o + n, none⟩ v.den) (H.set i (b, bk')) ∧ Ext w H (w.setCell ⟨b.n, b.o + n, none⟩ v.den) (H.set i (b, bk')) := by
  obtain ⟨hpl, ht, hc, hn⟩ := hp
  obtain ⟨h0, hcell⟩ := (hw.blk hi (Blk.plain_fam hpl)).plain hpl
  obtain ⟨w', h1, h2, h3⟩ := st_entry (P := P) hw hi ht (vs := [v]) (off := n) (by rw [hc]; rfl) (by simp only [List.length_singleton]; omega) (by simpa using hv) (.inl (by simp))
  have e : w' = w.setCell ⟨b.n, b.o + n, none⟩ v.den := by
    have hr := run_store_one (P := P) hcell hn v hv (.pure ()) .plain
    rw [h0, Nat.zero_add] at h1 ⊢
    have ha : (Addr.add ⟨b.n, n, none⟩ 0) = ⟨b.n, n, none⟩ := by unfold Addr.add; simp
    simp only [denL, storeCells, ha, store, bind, Sem.bind] at h1
    have h4 : (Sem.store .plain ⟨b.n, n, none⟩ v.den (.pure ())).run P w = .ok () w' := h1
    rw [hr] at h4
    simp only [Sem.run, Result.ok.injEq, true_and] at h4
    exact h4.symm
  rw [← e]
  exact ⟨h2, h3⟩

section
variable {P : Program} {f : FuncId} {fn : Func}

theorem mark0_ob (hf : P.funcs[f]? = some fn) (hname : (fn.name == "runtime.NumGoroutine") = false) (hb : fn.body.isNone = true) (hn : Extern.findNext fn = none) (m : Mark)
    (he : Extern.find fn = some (fun _ => do mark m; pure Extern.Race.none_)) {H : SH} {K : SV → SH → Prop} (h : K (.tup []) H) : FnOb P f [] H K :=
  FnOb.ext fun w hw => ⟨.tup [], H, w, run_call_mark0 hf hname hb hn m he w, hw, Ext.refl _ _, h⟩
theorem marked_ob (hf : P.funcs[f]? = some fn) (hname : (fn.name == "runtime.NumGoroutine") = false) (hb : fn.body.isNone = true) (hn : Extern.findNext fn = none) (m : Addr → Mark)
    (he : Extern.find fn = some (Extern.Race.marked m)) {H : SH} {i : Nat} {b : Bs} {wd j o : Nat} {K : SV → SH → Prop} (h : K (.tup []) H) : FnOb P f [.ptr i b wd j o] H K :=
  FnOb.ext fun w hw => ⟨.tup [], H, w, run_call_marked hf hname hb hn m he _ w, hw, Ext.refl _ _, h⟩

theorem aload_ob (hf : P.funcs[f]? = some fn) (hname : (fn.name == "runtime.NumGoroutine") = false) (hb : fn.body.isNone = true) (hn : Extern.findNext fn = none) (k : IntKind)
    (he : Extern.find fn = some (Extern.Atomic.loadT (.int k))) {H : SH} {i : Nat} {b : Bs} {bk : Blk} {wd j o n : Nat} {x : Int} (hi : H[i]? = some (b, bk)) (hn' : j * wd + o = n) (hc : bk.cells[n]? = some (.int k x))
    {K : SV → SH → Prop} (h : K (.int k x) H) : FnOb P f [.ptr i b wd j o] H K :=
  FnOb.ext fun w hw => by
    have hcell := hw.cell hi hc
    subst hn'
    rw [← Nat.add_assoc] at hcell
    exact ⟨.int k x, H, w, run_call_load hf hname hb hn k he hcell, hw, Ext.refl _ _, h⟩

theorem plain_cell {w : World} {H : SH} (hw : HSat w H) {i : Nat} {b : Bs} {bk bk' : Blk} (hi : H[i]? = some (b, bk)) {n : Nat} {v : SV} (hp : Blk.put bk bk' n v) {u : SV} (hc : bk.cells[n]? = some u) :
    w.cell? ⟨b.n, b.o + n, none⟩ = some u.den ∧ w.frozen? ⟨b.n, b.o + n, none⟩ = false := by
  obtain ⟨hpl, ht, _, hn⟩ := hp
  obtain ⟨h0, hcell⟩ := (hw.blk hi (Blk.plain_fam hpl)).plain hpl
  refine ⟨hw.cell hi hc, ?_⟩
  rw [h0, Nat.zero_add]
  exact cells_thaw hcell hn

theorem astore_ob (hf : P.funcs[f]? = some fn) (hname : (fn.name == "runtime.NumGoroutine") = false) (hb : fn.body.isNone = true) (hn : Extern.findNext fn = none) (k : IntKind)
    (he : Extern.find fn = some Extern.Atomic.storeT) {H : SH} {i : Nat} {b : Bs} {bk bk' : Blk} {wd j o n : Nat} {u : SV} {y : Int} (hi : H[i]? = some (b, bk)) (hn' : j * wd + o = n) (hc : bk.cells[n]? = some u) (hp : Blk.put bk bk' n (.int k y))
    {K : SV → SH → Prop} (h : setHK H i (b, bk') (K (.tup []))) : FnOb P f [.ptr i b wd j o, .int k y] H K :=
  FnOb.ext fun w hw => by
    rw [setHK_eq] at h
    obtain ⟨h1, h2⟩ := plain_cell hw hi hp hc
    obtain ⟨h3, h4⟩ := hw.setOne (P := P) hi hp rfl
    subst hn'
    rw [← Nat.add_assoc] at h1 h2 h3 h4
    exact ⟨.tup [], _, _, run_call_store hf hname hb hn he h1 h2, h3, h4, h⟩

theorem acas_ob (hf : P.funcs[f]? = some fn) (hname : (fn.name == "runtime.NumGoroutine") = false) (hb : fn.body.isNone = true) (hn : Extern.findNext fn = none) (k : IntKind)
    (he : Extern.find fn = some (Extern.Atomic.casT (.int k))) {H : SH} {i : Nat} {b : Bs} {bk bk' : Blk} {wd j o n : Nat} {x y old : Int} (hi : H[i]? = some (b, bk)) (hn' : j * wd + o = n) (hc : bk.cells[n]? = some (.int k x)) (hp : Blk.put bk bk' n (.int k y))
    {K : SV → SH → Prop} (hyes : x = old → setHK H i (b, bk') (K (.bool true))) (hno : ¬ x = old → K (.bool false) H) : FnOb P f [.ptr i b wd j o, .int k old, .int k y] H K :=
  FnOb.ext fun w hw => by
    obtain ⟨h1, h2⟩ := plain_cell hw hi hp hc
    obtain ⟨h3, h4⟩ := hw.setOne (P := P) hi hp rfl
    subst hn'
    rw [← Nat.add_assoc] at h1 h2 h3 h4
    by_cases hx : x = old
    · have hy := hyes hx
      rw [setHK_eq] at hy
      subst hx
      exact ⟨.bool true, _, _, run_call_cas_hit hf hname hb hn k he h1 h2, h3, h4, hy⟩
    · exact ⟨.bool false, H, w, run_call_cas_miss hf hname hb hn k he h1 h2 hx, hw, Ext.refl _ _, hno hx⟩

theorem aadd_ob (hf : P.funcs[f]? = some fn) (hname : (fn.name == "runtime.NumGoroutine") = false) (hb : fn.body.isNone = true) (hn : Extern.findNext fn = none) (k : IntKind)
    (he : Extern.find fn = some (Extern.Atomic.update (Op.intArith .add) k true)) {H : SH} {i : Nat} {b : Bs} {bk bk' : Blk} {wd j o n : Nat} {x y s : Int} (hi : H[i]? = some (b, bk)) (hn' : j * wd + o = n) (hc : bk.cells[n]? = some (.int k x))
    (hs : k.wrap (x + y) = s) (hp : Blk.put bk bk' n (.int k s)) {K : SV → SH → Prop} (h : setHK H i (b, bk') (K (.int k s))) : FnOb P f [.ptr i b wd j o, .int k y] H K :=
  FnOb.ext fun w hw => by
    rw [setHK_eq] at h
    obtain ⟨h1, h2⟩ := plain_cell hw hi hp hc
    obtain ⟨h3, h4⟩ := hw.setOne (P := P) hi hp rfl
    subst hn'
    rw [← Nat.add_assoc] at h1 h2 h3 h4
    exact ⟨.int k s, _, _, run_call_add hf hname hb hn k he h1 h2 (by subst hs; simp [Op.intArith, Sem.run]), h3, h4, h⟩
end

/-- Cells that are written out are an array. -/
theorem Retell.lit_tab {b : Bs} {cs : List SV} {α : Type} {enc : α → List SV} {w : Nat} {l : List α} (h : denL cs = denL (l.flatMap enc)) (hok : ∀ x ∈ l, (enc x).length = w) : Retell (b, .lit cs) (b, .tab enc w l) := by
  refine Retell.of rfl rfl rfl rfl fun W ⟨_, h0, e, fz, h1, h2⟩ => ⟨⟨hok, h0, e, fz, by rw [← h]; exact h1, ?_⟩, fun _ => trivial⟩
  have : cs.length = (l.flatMap enc).length := by rw [← denL_length, h, denL_length]
  rw [← this]; exact h2
end Go.Sy
