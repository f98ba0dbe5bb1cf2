/- SX, part E: operations that turn memory, and calls. Own work. -/
import Derived.Test.YtbmdmeljflmcgaaSxD
namespace Go.Sx
open Go.RowKit
set_option linter.unusedVariables false
set_option linter.unusedSimpArgs false

/-- A call, from symbolic arguments and memory: it returns. -/
structure FnOb (P : Program) (f : FuncId) (args : List SV) (H : SH) (K : SV → SH → Prop) : Prop where
  fn : ∃ fn, P.funcs[f]? = some fn ∧ fn.body.isSome = true ∧ fn.name ≠ "runtime.NumGoroutine"
  run : ∀ w, HSat w H → Calls P f (denL args).toArray w fun e w' => ∃ r H', e = .returned (SV.den r) ∧ HSat w' H' ∧ Ext w H w' H' ∧ K r H'

/-- Any other operation. -/
structure OpOb (P : Program) (o : Oper) (e : Operand → SV) (H : SH) (K : SV → SH → Prop) : Prop where
  run : ∀ w, HSat w H → ∃ v H' w', ((execOp (fun x => (e x).den) o).run P w = .ok (.value v.den) w' ∨ ((execOp (fun x => (e x).den) o).run P w = .ok .skip w' ∧ v = .raw undef)) ∧
    HSat w' H' ∧ Ext w H w' H' ∧ K v H'

def SV.cooked : SV → Bool
  | .raw _ => false
  | _ => true
theorem SV.cooked_ne {v : SV} (h : v.cooked = true) : ∀ x, v ≠ .raw x := fun x hx => by subst hx; simp [SV.cooked] at h

/-! ### new blocks -/
def encInt (k : IntKind) (n : Int) : List SV := [.int k n]
def encStr (s : List UInt8) : List SV := [.str s]
def encBool (b : Bool) : List SV := [.bool b]
def encByte (c : UInt8) : List SV := [.int .u8 c.toNat]
def encSV (v : SV) : List SV := [v]

def newK (P : Program) (t : TypeId) (cs : List SV) (H : SH) (K : SV → SH → Prop) : Prop :=
  match P.underlying t with
  | some (.array n e) =>
    if n ≤ 16 then forceL cs fun cs => ∀ n : Nat, K (.ptr H.length ⟨n, 0⟩ 0 0 0) (H ++ [(⟨n, 0⟩, .lit cs)]) else
    match P.underlying e, zrOf P e with
    | some (.int k), some (.int k' z) => cs = (List.replicate n z).flatMap (encInt k) ∧ ∀ b : Nat, K (.ptr H.length ⟨b, 0⟩ 1 0 0) (H ++ [(⟨b, 0⟩, .tab (encInt k) 1 (List.replicate n z))])
    | some .string, some (.str z) => cs = (List.replicate n z).flatMap encStr ∧ ∀ b : Nat, K (.ptr H.length ⟨b, 0⟩ 1 0 0) (H ++ [(⟨b, 0⟩, .tab encStr 1 (List.replicate n z))])
    | some .bool, some (.bool z) => cs = (List.replicate n z).flatMap encBool ∧ ∀ b : Nat, K (.ptr H.length ⟨b, 0⟩ 1 0 0) (H ++ [(⟨b, 0⟩, .tab encBool 1 (List.replicate n z))])
    | _, _ => forceL cs fun cs => ∀ n : Nat, K (.ptr H.length ⟨n, 0⟩ 0 0 0) (H ++ [(⟨n, 0⟩, .lit cs)])
  | _ => forceL cs fun cs => ∀ n : Nat, K (.ptr H.length ⟨n, 0⟩ 0 0 0) (H ++ [(⟨n, 0⟩, .lit cs)])

theorem newK_spec {P : Program} {t : TypeId} {cs : List SV} {H : SH} {K : SV → SH → Prop} (h : newK P t cs H K) (b : Nat) :
    ∃ v bk, bk.ok ∧ bk.wr = true ∧ bk.cells = cs ∧ v.den = .pointer (some ⟨b, 0, none⟩) ∧ K v (H ++ [(⟨b, 0⟩, bk)]) := by
  have lit : (∀ n : Nat, K (.ptr H.length ⟨n, 0⟩ 0 0 0) (H ++ [(⟨n, 0⟩, .lit cs)])) → ∃ v bk, bk.ok ∧ bk.wr = true ∧ bk.cells = cs ∧ v.den = .pointer (some ⟨b, 0, none⟩) ∧ K v (H ++ [(⟨b, 0⟩, bk)]) :=
    fun h => ⟨_, .lit cs, trivial, rfl, rfl, by simp [SV.den], h b⟩
  unfold newK at h
  simp only [forceL_eq] at h
  split at h
  · split at h
    · exact lit h
    · split at h
      · rename_i n _ _ _ _ k _ z _ _
        exact ⟨_, .tab (encInt k) 1 (List.replicate _ z), fun _ _ => rfl, rfl, h.1.symm, by simp [SV.den], h.2 b⟩
      · rename_i z _ _
        exact ⟨_, .tab encStr 1 (List.replicate _ z), fun _ _ => rfl, rfl, h.1.symm, by simp [SV.den], h.2 b⟩
      · rename_i z _ _
        exact ⟨_, .tab encBool 1 (List.replicate _ z), fun _ _ => rfl, rfl, h.1.symm, by simp [SV.den], h.2 b⟩
      · exact lit h
  · exact lit h

/-- What became of an operation. -/
def Did (P : Program) (o : Oper) (e : Operand → SV) (w : World) (H : SH) (K : SV → SH → Prop) : Prop :=
  (∃ v H' w', ((execOp (fun x => (e x).den) o).run P w = .ok (.value v.den) w' ∨ ((execOp (fun x => (e x).den) o).run P w = .ok .skip w' ∧ v = .raw undef)) ∧ HSat w' H' ∧ Ext w H w' H' ∧ K v H') ∨
  (∃ f args, (execOp (fun x => (e x).den) o).run P w = .ok (.enter f args) w ∧ Calls P f args w fun en w' => ∃ r H', en = .returned (SV.den r) ∧ HSat w' H' ∧ Ext w H w' H' ∧ K r H')

theorem new_did {P : Program} {o : Oper} {e : Operand → SV} {w : World} {H : SH} {K : SV → SH → Prop} {t : TypeId} {cs : List SV} (hw : HSat w H) (h : newK P t cs H K)
    (hr : (execOp (fun x => (e x).den) o).run P w = .ok (.value (.pointer (some ⟨w.heap.size, 0, none⟩))) { w with heap := w.heap.push (.cells (denL cs).toArray t (0, 0)) }) : Did P o e w H K := by
  obtain ⟨v, bk, hok, hwr, hc, hd, hk⟩ := newK_spec h w.heap.size
  refine .inl ⟨v, _, _, .inl (by rw [hd]; exact hr), ?_, Ext.push w H _ bk, hk⟩
  rw [← hc]
  exact hw.push bk hok hwr t (0, 0) (.inl rfl)

/-! ### stores -/
def stK (P : Program) (t : TypeId) (a v : SV) (H : SH) (K : SV → SH → Prop) : Prop :=
  match a with
  | .ptr i b w j f => match H[i]? with
    | some (b', bk) => b' = b ∧ match szOf P t with
      | some n =>
        let vs := cellsOf v
        v.cooked = true ∧ vs.length = n ∧ vs.all SV.one = true ∧
        match bk with
        | .lit cs => if j * w + f + n ≤ cs.length then setManyK cs (j * w + f) vs fun cs => setHK H i (b, .lit cs) (K (.raw undef)) else False
        | .win .. => False
        | .tab enc w' l =>
          if f + n ≤ w' then w = w' ∧ j < l.length ∧ ∀ x, l[j]? = some x → ∃ x', enc x' = setMany (enc x) f vs ∧ setHK H i (b, .tab enc w' (l.set j x')) (K (.raw undef))
          else w = w' ∧ f = 0 ∧ ∃ l', l'.flatMap enc = vs ∧ (∀ x ∈ l', (enc x).length = w') ∧ j + l'.length ≤ l.length ∧ setHK H i (b, .tab enc w' (l.take j ++ l' ++ l.drop (j + l'.length))) (K (.raw undef))
      | none => False
    | none => False
  | _ => False

theorem setMany_append_left : ∀ (vs cs ds : List SV) (n : Nat), n + vs.length ≤ cs.length → setMany (cs ++ ds) n vs = setMany cs n vs ++ ds
  | [], _, _, _, _ => rfl
  | v :: vs, cs, ds, n, h => by
    simp only [List.length_cons] at h
    rw [setMany, setMany, List.set_append_left _ _ (by omega), setMany_append_left vs _ ds (n + 1) (by simp; omega)]

theorem setMany_append_right : ∀ (vs cs ds : List SV) (n : Nat), setMany (cs ++ ds) (cs.length + n) vs = cs ++ setMany ds n vs
  | [], _, _, _ => rfl
  | v :: vs, cs, ds, n => by
    rw [setMany, setMany, List.set_append_right _ _ (by omega), show cs.length + n - cs.length = n from by omega, show cs.length + n + 1 = cs.length + (n + 1) from by omega, setMany_append_right vs cs _ (n + 1)]

theorem setMany_all : ∀ (vs cs : List SV), vs.length = cs.length → setMany cs 0 vs = vs := by
  have key : ∀ (vs cs pre : List SV), vs.length = cs.length → setMany (pre ++ cs) pre.length vs = pre ++ vs := by
    intro vs
    induction vs with
    | nil => intro cs pre h; cases cs <;> simp_all [setMany]
    | cons v vs ih =>
      intro cs pre h
      cases cs with
      | nil => simp at h
      | cons c cs =>
        have := ih cs (pre ++ [v]) (by simpa using h)
        simp only [List.append_assoc, List.singleton_append, List.length_append, List.length_singleton] at this
        rw [setMany, List.set_append_right _ _ (by omega), Nat.sub_self, List.set_cons_zero, this]
  intro vs cs h
  simpa using key vs cs [] h

theorem flatMap_setMany {α : Type} (enc : α → List SV) (w : Nat) (l : List α) (hok : ∀ x ∈ l, (enc x).length = w) (j f : Nat) (x x' : α) (vs : List SV) (hx : l[j]? = some x) (hf : f + vs.length ≤ w)
    (he : enc x' = setMany (enc x) f vs) : (l.set j x').flatMap enc = setMany (l.flatMap enc) (j * w + f) vs := by
  have hj : j < l.length := (List.getElem?_eq_some_iff.1 hx).1
  have hxl : l[j] = x := (List.getElem?_eq_some_iff.1 hx).2
  have hsplit : l = l.take j ++ x :: l.drop (j + 1) := by rw [← hxl]; simp
  have hlt : (l.take j).flatMap enc = (l.flatMap enc).take (j * w) := (flatMap_take enc w l hok j).symm
  have hlen : ((l.take j).flatMap enc).length = j * w := by
    rw [flatMap_length enc w _ (fun x hx => hok x (List.mem_of_mem_take hx)), List.length_take, Nat.min_eq_left (by omega)]
  have hxw : (enc x).length = w := hok x (List.mem_of_getElem? hx)
  conv => rhs; rw [hsplit]
  rw [List.flatMap_append, List.flatMap_cons, show j * w + f = ((l.take j).flatMap enc).length + f from by rw [hlen], setMany_append_right, setMany_append_left _ _ _ _ (by omega), ← he]
  rw [List.set_eq_take_append_cons_drop, if_pos hj, List.flatMap_append, List.flatMap_cons]

theorem flatMap_setRows {α : Type} (enc : α → List SV) (w : Nat) (l l' : List α) (hok : ∀ x ∈ l, (enc x).length = w) (hok' : ∀ x ∈ l', (enc x).length = w) (j : Nat) (hj : j + l'.length ≤ l.length) :
    (l.take j ++ l' ++ l.drop (j + l'.length)).flatMap enc = setMany (l.flatMap enc) (j * w) (l'.flatMap enc) := by
  have hsplit : l = l.take j ++ ((l.drop j).take l'.length ++ l.drop (j + l'.length)) := by
    rw [← List.drop_drop, List.take_append_drop, List.take_append_drop]
  have hlen : ((l.take j).flatMap enc).length = j * w := by
    rw [flatMap_length enc w _ (fun x hx => hok x (List.mem_of_mem_take hx)), List.length_take, Nat.min_eq_left (by omega)]
  have hmid : (((l.drop j).take l'.length).flatMap enc).length = (l'.flatMap enc).length := by
    rw [flatMap_length enc w _ (fun x hx => hok x (List.mem_of_mem_drop (List.mem_of_mem_take hx))), flatMap_length enc w _ hok', List.length_take, List.length_drop, Nat.min_eq_left (by omega)]
  have e1 : l.flatMap enc = (l.take j).flatMap enc ++ (((l.drop j).take l'.length).flatMap enc ++ (l.drop (j + l'.length)).flatMap enc) := by
    conv => lhs; rw [hsplit]
    simp only [List.flatMap_append]
  have e2 : j * w = ((l.take j).flatMap enc).length + 0 := by rw [hlen]; rfl
  rw [e1, e2, setMany_append_right, setMany_append_left _ _ _ _ (by omega), setMany_all _ _ hmid.symm]
  simp only [List.flatMap_append, List.append_assoc]

theorem stK_spec {P : Program} {t : TypeId} {a v : SV} {H : SH} {K : SV → SH → Prop} {w : World} (hw : HSat w H) (h : stK P t a v H K) :
    ∃ H' w', (Instr.storeAt t a.den v.den).run P w = .ok () w' ∧ HSat w' H' ∧ Ext w H w' H' ∧ K (.raw undef) H' := by
  unfold stK at h
  simp only [setManyK_eq, setHK_eq] at h
  split at h <;> try exact h.elim
  rename_i i b wd j f
  split at h <;> try exact h.elim
  rename_i b' bk hi
  obtain ⟨rfl, h⟩ := h
  split at h <;> try exact h.elim
  rename_i n hs
  try simp only at h
  obtain ⟨hraw, hlen, hone, h⟩ := h
  have hraw' := SV.cooked_ne hraw
  obtain ⟨hok, hrd, hbw⟩ := hw.at_ _ (List.mem_of_getElem? hi)
  simp only at hok hrd hbw
  have hcd := cellsOf_den v hraw'
  have run : ∀ (bk' : Blk), bk.wr = true → bk'.wr = true → bk'.ok → bk'.cells = setMany bk.cells (j * wd + f) (cellsOf v) → j * wd + f + n ≤ bk.cells.length →
      ∃ w', (Instr.storeAt t (SV.ptr i b' wd j f).den v.den).run P w = .ok () w' ∧ HSat w' (H.set i (b', bk')) ∧ Ext w H w' (H.set i (b', bk')) := by
    intro bk' hwr hwr' hok' hc hle
    obtain ⟨hbo, e, fz, he, hf⟩ := hbw hwr
    obtain ⟨bn, bo⟩ := b'
    simp only at hbo he
    subst hbo
    obtain ⟨w', h1, ⟨e', fz', he', hf'⟩, h3, h4, h5, h6, h7, h8⟩ := run_storeCells (P := P) (off := j * wd + f) (cellsOf v) 0 w bk.cells ⟨e, fz, he, hf⟩ (by omega) hone
    refine ⟨w', ?_, hw.set hi hwr hwr' hok' (e := e') (fz := fz') (by rw [hc]; exact he') (by rw [hc]; exact hf') h7, Ext.set hi hwr h3 h4 h5 h6 h7 h8⟩
    simp only [Instr.storeAt, SV.den, Instr.sureAddr, storeVar]
    refine (bind_run' (a := (⟨bn, 0 + j * wd + f, none⟩ : Addr)) (w' := w) rfl).trans ?_
    refine (bind_run' (run_sizeOf hs w)).trans ?_
    rw [Nat.zero_add]
    have hsz : v.den.cells.size = n := by rw [← Array.length_toList, ← hcd, denL_eq, List.length_map, hlen]
    rw [if_neg (by simp [hsz])]
    rw [← hcd]
    exact h1
  split at h
  · split at h <;> try exact h.elim
    rename_i hle
    obtain ⟨w', r1, r2, r3⟩ := run (.lit _) rfl rfl trivial rfl hle
    exact ⟨_, w', r1, r2, r3, h⟩
  · exact h.elim
  · rename_i α enc w' l
    split at h
    · rename_i hfn
      obtain ⟨rfl, hj, hx⟩ := h
      have hg : l[j]? = some l[j] := List.getElem?_eq_getElem hj
      obtain ⟨x', hx', hk⟩ := hx _ hg
      have hxw : (enc x').length = wd := by rw [hx', setMany_length]; exact hok _ (List.getElem_mem hj)
      obtain ⟨w', r1, r2, r3⟩ := run (.tab enc wd (l.set j x')) rfl rfl (fun y hy => by rcases List.mem_or_eq_of_mem_set hy with h | rfl; exact hok y h; exact hxw)
        (flatMap_setMany enc wd l hok j f _ x' _ hg (by omega) hx')
        (by
          simp only [Blk.cells]; rw [flatMap_length enc wd l hok]
          have : (j + 1) * wd ≤ l.length * wd := Nat.mul_le_mul_right _ hj
          rw [Nat.add_mul] at this; omega)
      exact ⟨_, w', r1, r2, r3, hk⟩
    · obtain ⟨rfl, rfl, l', hl', hok', hle, hk⟩ := h
      have hn : l'.length * wd = n := by rw [← hlen, ← hl', flatMap_length enc wd l' hok']
      obtain ⟨w', r1, r2, r3⟩ := run (.tab enc wd (l.take j ++ l' ++ l.drop (j + l'.length))) rfl rfl
        (fun y hy => by
          rcases List.mem_append.1 hy with h | h
          · rcases List.mem_append.1 h with h | h
            · exact hok y (List.mem_of_mem_take h)
            · exact hok' y h
          · exact hok y (List.mem_of_mem_drop h))
        (by rw [← hl', Nat.add_zero]; exact flatMap_setRows enc wd l l' hok hok' j hle)
        (by
          simp only [Blk.cells]; rw [flatMap_length enc wd l hok]
          have : (j + l'.length) * wd ≤ l.length * wd := Nat.mul_le_mul_right _ hle
          rw [Nat.add_mul] at this; omega)
      exact ⟨_, w', r1, r2, r3, hk⟩

/-! ### append -/
/-- The cells of the first n elements. -/
def cellsIn (H : SH) (s : SV) (n sz : Nat) (K : List SV → Prop) : Prop :=
  match s with
  | .nils => n = 0 ∧ K []
  | .sl i b w j l c => match H[i]? with
    | some (b', bk) => b' = b ∧ w = sz ∧ ((bk.cells.drop (j * w)).take (n * sz)).length = n * sz ∧ K ((bk.cells.drop (j * w)).take (n * sz))
    | none => False
  | .str s => sz = 1 ∧ n = s.length ∧ K (s.flatMap encByte)
  | _ => False

theorem cellsIn_run {P : Program} {H : SH} {s : SV} {n sz : Nat} {K : List SV → Prop} {w0 : World} (hw0 : HSat w0 H) (h : cellsIn H s n sz K) :
    ∃ cs, K cs ∧ cs.length = n * sz ∧ ∀ w, HSat w H → (Builtin.firstCells sz n s.den).run P w = .ok (denL cs).toArray w := by
  unfold cellsIn at h
  split at h <;> try exact h.elim
  · obtain ⟨rfl, hk⟩ := h
    exact ⟨_, hk, by simp, fun w _ => by simp [Builtin.firstCells, SV.den, Sem.run, denL]⟩
  · rename_i i b wd j l c
    split at h <;> try exact h.elim
    rename_i b' bk hi
    obtain ⟨rfl, rfl, hl, hk⟩ := h
    refine ⟨_, hk, hl, fun w hw => ?_⟩
    have hrd := (hw.at_ _ (List.mem_of_getElem? hi)).2.1
    have hle : n * wd = 0 ∨ j * wd + n * wd ≤ bk.cells.length := by
      rw [List.length_take, List.length_drop] at hl; omega
    simp only [Builtin.firstCells, SV.den, loadCells]
    rcases hle with h0 | hle
    · rw [h0]; simp [loadCellsFrom, denL, Sem.run]
    · rw [run_loadCells hrd (n * wd) 0 #[] (by simpa using hle)]
      simp
  · rename_i s
    obtain ⟨rfl, rfl, hk⟩ := h
    refine ⟨_, hk, by rw [flatMap_length encByte 1 _ (fun _ _ => rfl)], fun w _ => ?_⟩
    simp only [Builtin.firstCells, SV.den, Sem.run_pure]
    congr 1
    apply Array.ext'
    have : (ByteArray.mk s.toArray).extract 0 s.length = ByteArray.mk s.toArray := by
      apply ByteArray.ext; simp
    rw [this]
    simp only [denL_eq, List.map_flatMap]
    simp [encByte, SV.den, List.flatMap_singleton']
    rw [← List.flatMap_singleton' (s.map _)]
    simp [List.flatMap_map]

def lenIn (x : SV) : Option Nat := match x with
  | .nils => some 0
  | .sl _ _ _ _ l _ => some l
  | .str s => some s.length
  | _ => none

def capIn (s : SV) : Nat := match s with
  | .sl _ _ _ _ _ c => c
  | _ => 0
def isIntD (d : TypeDesc) : Bool := d matches .int _

/-- append(s, x...). -/
def appK (P : Program) (ts : List TypeId) (s x : SV) (H : SH) (K : SV → SH → Prop) : Prop :=
  match ts with
  | [t, tx] => match P.underlying t, P.underlying tx, lenIn s, lenIn x with
    | some (.slice e), some dx, some ls, some n => match szOf P e, zrOf P e, (P.info? e).map (·.bytes) with
      | some (sz + 1), some z, some by_ =>
        isIntD dx = false ∧ z.cooked = true ∧ (cellsOf z).length = sz + 1 ∧
        cellsIn H x n (sz + 1) fun ncs =>
          ncs.all SV.one = true ∧
          (match s with
          | .sl i b w j l c => l + n ≤ c → match H[i]? with
            | some (b', bk) => b' = b ∧ w = sz + 1 ∧ match bk with
              | .win .. => False
              | .lit cs => (j + l) * w + n * (sz + 1) ≤ cs.length ∧ setManyK cs ((j + l) * w) ncs fun cs => setHK H i (b, .lit cs) (K (.sl i b w j (l + n) c))
              | .tab enc w' L => w = w' ∧ ∃ news, news.flatMap enc = ncs ∧ (∀ y ∈ news, (enc y).length = w') ∧ j + l + news.length ≤ L.length ∧
                  setHK H i (b, .tab enc w' (L.take (j + l) ++ news ++ L.drop (j + l + news.length))) (K (.sl i b w j (l + n) c))
            | none => False
          | .nils => n = 0 → K .nils H
          | _ => False) ∧
          (capIn s < ls + n → natK by_ (fun by_ => (ls + n) * by_ ≤ 140737488355328) ∧ ls + n ≤ 9223372036854775807 ∧ cellsIn H s ls (sz + 1) fun ocs =>
            ∃ (α : Type) (enc : α → List SV) (olds news : List α) (z0 : α), (∀ y, (enc y).length = sz + 1) ∧ olds.flatMap enc = ocs ∧ news.flatMap enc = ncs ∧ enc z0 = cellsOf z ∧
              ∀ b c : Nat, ls + n ≤ c → K (.sl H.length ⟨b, 0⟩ (sz + 1) 0 (ls + n) c) (H ++ [(⟨b, 0⟩, .tab enc (sz + 1) (olds ++ news ++ List.replicate (c - (ls + n)) z0))]))
      | _, _, _ => False
    | _, _, _, _ => False
  | _ => False
theorem denL_append (a b : List SV) : denL (a ++ b) = denL a ++ denL b := by simp [denL_eq]

theorem zeroCells_den (cs : List SV) (m : Nat) : Builtin.zeroCells (denL cs).toArray m = (denL ((List.replicate m cs).flatten)).toArray := by
  have hl : (denL cs).length = cs.length := by rw [denL_eq, List.length_map]
  apply Array.ext'
  simp only [Builtin.zeroCells, List.size_toArray, Array.toList_map, Array.toList_range, hl]
  induction m with
  | zero => simp [denL]
  | succ m ih =>
    rw [List.replicate_succ', List.flatten_append, denL_append, ← ih, Nat.add_mul, Nat.one_mul, List.range_add, List.map_append]
    congr 1
    apply List.ext_getElem
    · simp [denL_eq]
    · intro k h1 h2
      have hk : k < cs.length := by simpa using h1
      simp [denL_eq, hk, Nat.mod_eq_of_lt]

theorem zeroCells_eq (z : SV) (m : Nat) (hz : ∀ x, z ≠ .raw x) : Builtin.zeroCells z.den.cells m = (denL ((List.replicate m (cellsOf z)).flatten)).toArray := by
  have hcd := cellsOf_den z hz
  have ha : z.den.cells = (denL (cellsOf z)).toArray := by rw [hcd]
  rw [ha, zeroCells_den]

theorem flatMap_replicate {α : Type} (enc : α → List SV) (z : α) (m : Nat) : (List.replicate m z).flatMap enc = (List.replicate m (enc z)).flatten := by
  rw [List.flatMap_def]; simp

theorem append_room {P : Program} {t tx ty e : TypeId} {dx : TypeDesc} {sz ls n c : Nat} {base : Option Addr} {x : Value} {ncs : Array Value} {w w' : World} (ht : P.underlying t = some (.slice e))
    (htx : P.underlying tx = some dx) (hdx : isIntD dx = false) (hsz : szOf P e = some sz) (hlenx : (Builtin.lenOf x).run P w = .ok n w) (hnr : (Builtin.firstCells sz n x).run P w = .ok ncs w)
    (hroom : ls + n ≤ c) (hst : (∃ a, base = some a ∧ (storeCells (a.add (ls * sz)) ncs.toList).run P w = .ok () w') ∨ (base = none ∧ w' = w)) :
    (Builtin.append_ #[t, tx] ty #[.slice base ls c, x]).run P w = .ok (.slice base (ls + n) c) w' := by
  rcases hst with ⟨a, rfl, hst⟩ | ⟨rfl, rfl⟩
  · cases dx <;> first
      | (simp [isIntD] at hdx; done)
      | simp [Builtin.append_, run_underlying ht, run_underlying htx, run_sizeOf hsz, hlenx, hnr, hroom, hst, Result.andThen]
  · cases dx <;> first
      | (simp [isIntD] at hdx; done)
      | simp [Builtin.append_, run_underlying ht, run_underlying htx, run_sizeOf hsz, hlenx, hnr, hroom, Result.andThen]

theorem append_grow {P : Program} {t tx ty e : TypeId} {dx : TypeDesc} {inf : TypeInfo} {sz ls n c : Nat} {base : Option Addr} {x z : Value} {ncs ocs : Array Value} {w : World} (ht : P.underlying t = some (.slice e))
    (htx : P.underlying tx = some dx) (hdx : isIntD dx = false) (hsz : szOf P e = some sz) (hinf : P.info? e = some inf) (hlenx : (Builtin.lenOf x).run P w = .ok n w)
    (hnr : (Builtin.firstCells sz n x).run P { w with drawn := w.drawn + 1 } = .ok ncs { w with drawn := w.drawn + 1 })
    (hor : (Builtin.firstCells sz ls (.slice base ls c)).run P { w with drawn := w.drawn + 1 } = .ok ocs { w with drawn := w.drawn + 1 })
    (hz : ∀ w', (zeroValue e).run P w' = .ok z w') (hroom : c < ls + n) (h47 : (ls + n) * inf.bytes ≤ 140737488355328) (h63 : ls + n ≤ 9223372036854775807) :
    (Builtin.append_ #[t, tx] ty #[.slice base ls c, x]).run P w = .ok (.slice (some ⟨w.heap.size, 0, none⟩) (ls + n) (Question.cut (.appendCap (ls + n) c e) (w.tape w.drawn (.appendCap (ls + n) c e))))
      { w with drawn := w.drawn + 1, heap := w.heap.push (.cells (ocs ++ ncs ++ Builtin.zeroCells z.cells (Question.cut (.appendCap (ls + n) c e) (w.tape w.drawn (.appendCap (ls + n) c e)) - (ls + n))) e) } := by
  have hz1 : ¬ (IntKind.i64.max < ((ls + n : Nat) : Int)) := by rw [i64max]; omega
  have hfit := growslice_fits (need := ls + n) (old := c) (bytes := inf.bytes) (by omega) h47
  have hz2 : ¬ (281474976710656 < Builtin.nextslicecap (ls + n) c * inf.bytes) := by omega
  have hask : ∀ m w', (askRoom m).run P w' = .ok () w' := fun m w' => by unfold askRoom; split <;> rfl
  have hchoose : (choose (.appendCap (ls + n) c e)).run P w = .ok (Question.cut (.appendCap (ls + n) c e) (w.tape w.drawn (.appendCap (ls + n) c e))) { w with drawn := w.drawn + 1 } := by
    simp [choose, Sem.run, Question.forced]
  have hbytes : ∀ w', (typeInfo e).run P w' = .ok inf w' := fun w' => by simp [typeInfo, program, bind, Sem.bind, Sem.run, hinf, pure]
  have hnot : ¬ (ls + n ≤ c) := by omega
  have hnew : ∀ (o : Obj) w', (newObj o).run P w' = .ok w'.heap.size { w' with heap := w'.heap.push o } := fun o w' => rfl
  cases dx <;> first
    | (simp [isIntD] at hdx; done)
    | simp only [Builtin.append_, List.getElem?_toArray, List.getElem?_cons_zero, List.getElem?_cons_succ, Sem.run_bind, run_underlying ht, run_underlying htx, run_sizeOf hsz, Result.andThen, Sem.run_pure, Bool.false_eq_true, if_false, hlenx,
        hnot, Sem.run_ite, gt_iff_lt, hz1, false_and, hbytes, Nat.reducePow, hz2, hchoose, hask, hor, hnr, hz, newRow, hnew, Bool.not_false, if_true]

theorem appK_run {P : Program} {ty : TypeId} {ts : List TypeId} {s x : SV} {H : SH} {K : SV → SH → Prop} {w : World} (hw : HSat w H) (h : appK P ts s x H K) :
    ∃ v H' w', (Builtin.append_ ts.toArray ty #[s.den, x.den]).run P w = .ok v.den w' ∧ HSat w' H' ∧ Ext w H w' H' ∧ K v H' := by
  unfold appK at h
  simp only [setManyK_eq, setHK_eq, natK_eq] at h
  split at h <;> try exact h.elim
  rename_i t tx
  split at h <;> try exact h.elim
  rename_i e dx ls n ht htx hls hn
  split at h <;> try exact h.elim
  rename_i sz z by_ hsz hz hby
  obtain ⟨hdx, hraw, hzl, h⟩ := h
  obtain ⟨ncs, h, hnl, hnr⟩ := cellsIn_run (P := P) hw h
  obtain ⟨hone, hin, hnew⟩ := h
  have hraw' := SV.cooked_ne hraw
  have hbyi : ∃ i, P.info? e = some i ∧ i.bytes = by_ := by
    cases hi : P.info? e with
    | none => simp [hi] at hby
    | some i => simp [hi] at hby; exact ⟨i, rfl, hby⟩
  obtain ⟨inf, hinf, hinfb⟩ := hbyi
  have hlenx : ∀ w', (Builtin.lenOf x.den).run P w' = .ok n w' := fun w' => by
    cases x <;> simp [lenIn] at hn <;> subst hn <;> simp [Builtin.lenOf, SV.den, Sem.run, ByteArray.size]
  have hsd : ∃ base c, s.den = .slice base ls c ∧ c = capIn s := by
    cases s with
    | nils => simp [lenIn] at hls; subst hls; exact ⟨_, _, rfl, rfl⟩
    | sl i b w j l c => simp [lenIn] at hls; subst hls; exact ⟨_, _, rfl, rfl⟩
    | str s0 => exfalso; simp [lenIn] at hls; subst hls; revert hin hnew; intro hin hnew; exact hin.elim
    | _ => simp [lenIn] at hls
  obtain ⟨base, c, hsden, hc⟩ := hsd
  have hhinf := hinfb
  by_cases hroom : ls + n ≤ c
  · -- there is room
    have hrun : ∀ w', (∃ a, base = some a ∧ (storeCells (a.add (ls * (sz + 1))) (denL ncs)).run P w = .ok () w') ∨ (base = none ∧ w' = w) →
        (Builtin.append_ [t, tx].toArray ty #[s.den, x.den]).run P w = .ok (.slice base (ls + n) c) w' := fun w' hst => by
      rw [hsden]
      exact append_room ht htx hdx hsz (hlenx w) (hnr w hw) hroom hst
    split at hin
    · rename_i i b wd j l c'
      simp only [lenIn, Option.some.injEq] at hls
      subst hls
      simp only [SV.den, Value.slice.injEq] at hsden
      obtain ⟨rfl, _, rfl⟩ := hsden
      have hin := hin hroom
      split at hin <;> try exact hin.elim
      rename_i b' bk hi
      obtain ⟨rfl, rfl, hin⟩ := hin
      obtain ⟨hok, hrd, hbw⟩ := hw.at_ _ (List.mem_of_getElem? hi)
      simp only at hok hrd hbw
      have store : ∀ bk' : Blk, bk.wr = true → bk'.wr = true → bk'.ok → bk'.cells = setMany bk.cells ((j + l) * (sz + 1)) ncs → (j + l) * (sz + 1) + n * (sz + 1) ≤ bk.cells.length →
          ∃ w', (Builtin.append_ [t, tx].toArray ty #[(SV.sl i b' (sz + 1) j l c').den, x.den]).run P w = .ok (SV.sl i b' (sz + 1) j (l + n) c').den w' ∧ HSat w' (H.set i (b', bk')) ∧ Ext w H w' (H.set i (b', bk')) := by
        intro bk' hwr hwr' hok' hcc hle
        obtain ⟨hbo, e', fz, he, hf⟩ := hbw hwr
        obtain ⟨bn, bo⟩ := b'
        simp only at hbo he
        subst hbo
        obtain ⟨w', h1, ⟨e2, fz2, he2, hf2⟩, h3, h4, h5, h6, h7, h8⟩ := run_storeCells (P := P) (off := (j + l) * (sz + 1)) ncs 0 w bk.cells ⟨e', fz, he, hf⟩ (by omega) hone
        refine ⟨w', ?_, hw.set hi hwr hwr' hok' (e := e2) (fz := fz2) (by rw [hcc]; exact he2) (by rw [hcc]; exact hf2) h7, Ext.set hi hwr h3 h4 h5 h6 h7 h8⟩
        rw [hrun w' (.inl ⟨_, rfl, by rw [addr_add, Nat.zero_add, ← Nat.add_mul]; exact h1⟩)]
        rfl
      split at hin
      · exact hin.elim
      · obtain ⟨hle, hk⟩ := hin
        obtain ⟨w', r1, r2, r3⟩ := store (.lit _) rfl rfl trivial rfl hle
        exact ⟨_, _, w', r1, r2, r3, hk⟩
      · rename_i α enc w' L
        obtain ⟨rfl, news, hnews, hnok, hle, hk⟩ := hin
        obtain ⟨w', r1, r2, r3⟩ := store (.tab enc (sz + 1) (L.take (j + l) ++ news ++ L.drop (j + l + news.length))) rfl rfl
          (fun y hy => by
            rcases List.mem_append.1 hy with h | h
            · rcases List.mem_append.1 h with h | h
              · exact hok y (List.mem_of_mem_take h)
              · exact hnok y h
            · exact hok y (List.mem_of_mem_drop h))
          (by rw [← hnews]; exact flatMap_setRows enc (sz + 1) L news hok hnok (j + l) hle)
          (by
            simp only [Blk.cells]; rw [flatMap_length enc (sz + 1) L hok]
            have h1 : (j + l + news.length) * (sz + 1) ≤ L.length * (sz + 1) := Nat.mul_le_mul_right _ hle
            have h2 : news.length * (sz + 1) = n * (sz + 1) := by rw [← hnl, ← hnews, flatMap_length enc (sz + 1) news hnok]
            rw [Nat.add_mul] at h1; omega)
        exact ⟨_, _, w', r1, r2, r3, hk⟩
    · simp only [lenIn, Option.some.injEq] at hls
      subst hls
      simp only [SV.den, Value.slice.injEq] at hsden
      obtain ⟨rfl, _, rfl⟩ := hsden
      have hn0 : n = 0 := by omega
      subst hn0
      exact ⟨.nils, _, w, hrun w (.inr ⟨rfl, rfl⟩), hw, Ext.refl _ _, hin rfl⟩
    · exact hin.elim
  · -- a new row
    rw [hc] at hroom
    obtain ⟨hb47, h63, hnew⟩ := hnew (by omega)
    obtain ⟨ocs, hnew, hol, hor⟩ := cellsIn_run (P := P) hw hnew
    obtain ⟨α, enc, olds, news, z0, hw1, holds, hnews, hz0, hk⟩ := hnew
    rw [← hc] at hroom
    let c' := Question.cut (.appendCap (ls + n) c e) (w.tape w.drawn (.appendCap (ls + n) c e))
    have hcge : ls + n ≤ c' := by simp [c', Question.cut]
    have hcells : (Blk.tab enc (sz + 1) (olds ++ news ++ List.replicate (c' - (ls + n)) z0)).cells = ocs ++ ncs ++ (List.replicate (c' - (ls + n)) (cellsOf z)).flatten := by
      simp only [Blk.cells, List.flatMap_append, holds, hnews, flatMap_replicate, hz0]
    have hw' := hw.drew.push (.tab enc (sz + 1) (olds ++ news ++ List.replicate (c' - (ls + n)) z0)) (fun y _ => hw1 y) rfl e (0, 0) (.inl rfl)
    refine ⟨_, _, _, ?_, hw', (Ext.drew w H).trans (Ext.push _ H _ _), hk _ c' hcge⟩
    have hor' := hor _ hw.drew
    rw [hsden] at hor'
    have := append_grow (ty := ty) ht htx hdx hsz hinf (hlenx w) (hnr _ hw.drew) hor' (run_zero hz) (by omega : c < ls + n) (by rw [hinfb]; exact hb47) h63
    rw [hsden]
    refine this.trans ?_
    rw [hcells, zeroCells_eq z _ hraw']
    simp only [SV.den, denL_append, Nat.zero_mul]
    simp [c']
end Go.Sx
