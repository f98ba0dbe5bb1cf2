/- SY, part E: operations that turn memory, and calls. Own work. -/
import Derived.Test.YthimgonpkhoodaaSyD
namespace Go.Sy
open Go.RowKit
set_option linter.unusedVariables false
set_option linter.unusedSimpArgs false

/-- What becomes of a call: of a function that has a body, or of one of the model's own. -/
def CallRes (P : Program) (f : FuncId) (args : Array Value) (w : World) (Q : Value → World → Prop) : Prop :=
  (∃ v w', (callFunc f args).run P w = .ok (.value v) w' ∧ Q v w') ∨ ((callFunc f args).run P w = .ok (.enter f args) w ∧ Calls P f args w fun e w' => ∃ v, e = .returned v ∧ Q v w')
theorem CallRes.mono {P : Program} {f : FuncId} {args : Array Value} {w : World} {Q Q' : Value → World → Prop} (h : CallRes P f args w Q) (hq : ∀ v w', Q v w' → Q' v w') : CallRes P f args w Q' := by
  rcases h with ⟨v, w', h1, h2⟩ | ⟨h1, h2⟩
  · exact .inl ⟨v, w', h1, hq _ _ h2⟩
  · exact .inr ⟨h1, h2.mono fun e w' ⟨v, he, h⟩ => ⟨v, he, hq _ _ h⟩⟩

/-- A call, from symbolic arguments and memory: it returns. -/
structure FnOb (P : Program) (f : FuncId) (args : List SV) (H : SH) (K : SV → SH → Prop) : Prop where
  run : ∀ w, HSat w H → CallRes P f (denL args).toArray w fun v w' => ∃ r H', v = SV.den r ∧ HSat w' H' ∧ Ext w H w' H' ∧ K r H'

/-- Any other operation. -/
structure OpOb (P : Program) (o : Oper) (e : Operand → SV) (H : SH) (K : SV → SH → Prop) : Prop where
  run : ∀ w, HSat w H → ∃ v H' w', ((execOp (fun x => (e x).den) o).run P w = .ok (.value v.den) w' ∨ ((execOp (fun x => (e x).den) o).run P w = .ok .skip w' ∧ v = .raw undef)) ∧
    HSat w' H' ∧ Ext w H w' H' ∧ K v H'

def SV.cooked : SV → Bool
  | .raw _ => false
  | _ => true
theorem SV.cooked_ne {v : SV} (h : v.cooked = true) : ∀ x, v ≠ .raw x := fun x hx => by subst hx; simp [SV.cooked] at h

/-! ### new blocks -/
def encInt (k : IntKind) (n : Int) : List SV := [.int k n]
def encStr (s : List UInt8) : List SV := [.str s]
def encBool (b : Bool) : List SV := [.bool b]
def encByte (c : UInt8) : List SV := [.int .u8 c.toNat]
def encSV (v : SV) : List SV := [v]

def newK (P : Program) (t : TypeId) (cs : List SV) (H : SH) (K : SV → SH → Prop) : Prop :=
  match P.underlying t with
  | some (.array n e) =>
    if n ≤ 16 then forceL cs fun cs => ∀ n : Nat, K (.ptr H.length ⟨n, 0⟩ 0 0 0) (H ++ [(⟨n, 0⟩, .lit cs)]) else
    match P.underlying e, zrOf P e with
    | some (.int k), some (.int k' z) => cs = (List.replicate n z).flatMap (encInt k) ∧ ∀ b : Nat, K (.ptr H.length ⟨b, 0⟩ 1 0 0) (H ++ [(⟨b, 0⟩, .tab (encInt k) 1 (List.replicate n z))])
    | some .string, some (.str z) => cs = (List.replicate n z).flatMap encStr ∧ ∀ b : Nat, K (.ptr H.length ⟨b, 0⟩ 1 0 0) (H ++ [(⟨b, 0⟩, .tab encStr 1 (List.replicate n z))])
    | some .bool, some (.bool z) => cs = (List.replicate n z).flatMap encBool ∧ ∀ b : Nat, K (.ptr H.length ⟨b, 0⟩ 1 0 0) (H ++ [(⟨b, 0⟩, .tab encBool 1 (List.replicate n z))])
    | _, _ => forceL cs fun cs => ∀ n : Nat, K (.ptr H.length ⟨n, 0⟩ 0 0 0) (H ++ [(⟨n, 0⟩, .lit cs)])
  | _ => forceL cs fun cs => ∀ n : Nat, K (.ptr H.length ⟨n, 0⟩ 0 0 0) (H ++ [(⟨n, 0⟩, .lit cs)])

theorem newK_spec {P : Program} {t : TypeId} {cs : List SV} {H : SH} {K : SV → SH → Prop} (h : newK P t cs H K) (b : Nat) :
    ∃ v bk, bk.isFam = false ∧ bk.isWin = false ∧ (∀ w : World, CellsAt w b cs → BlkAt w (⟨b, 0⟩, bk)) ∧ v.den = .pointer (some ⟨b, 0, none⟩) ∧ K v (H ++ [(⟨b, 0⟩, bk)]) := by
  have lit : (∀ n : Nat, K (.ptr H.length ⟨n, 0⟩ 0 0 0) (H ++ [(⟨n, 0⟩, .lit cs)])) → ∃ v bk, bk.isFam = false ∧ bk.isWin = false ∧ (∀ w : World, CellsAt w b cs → BlkAt w (⟨b, 0⟩, bk)) ∧ v.den = .pointer (some ⟨b, 0, none⟩) ∧ K v (H ++ [(⟨b, 0⟩, bk)]) :=
    fun h => ⟨_, .lit cs, rfl, rfl, fun w hc => ⟨trivial, rfl, hc⟩, by simp [SV.den], h b⟩
  unfold newK at h
  simp only [forceL_eq] at h
  split at h
  · split at h
    · exact lit h
    · split at h
      · rename_i n _ _ _ _ k _ z _ _
        exact ⟨_, .tab (encInt k) 1 (List.replicate _ z), rfl, rfl, fun w hc => ⟨fun _ _ => rfl, rfl, h.1 ▸ hc⟩, by simp [SV.den], h.2 b⟩
      · rename_i z _ _
        exact ⟨_, .tab encStr 1 (List.replicate _ z), rfl, rfl, fun w hc => ⟨fun _ _ => rfl, rfl, h.1 ▸ hc⟩, by simp [SV.den], h.2 b⟩
      · rename_i z _ _
        exact ⟨_, .tab encBool 1 (List.replicate _ z), rfl, rfl, fun w hc => ⟨fun _ _ => rfl, rfl, h.1 ▸ hc⟩, by simp [SV.den], h.2 b⟩
      · exact lit h
  · exact lit h

/-- What became of an operation. -/
def Did (P : Program) (o : Oper) (e : Operand → SV) (w : World) (H : SH) (K : SV → SH → Prop) : Prop :=
  (∃ v H' w', ((execOp (fun x => (e x).den) o).run P w = .ok (.value v.den) w' ∨ ((execOp (fun x => (e x).den) o).run P w = .ok .skip w' ∧ v = .raw undef)) ∧ HSat w' H' ∧ Ext w H w' H' ∧ K v H') ∨
  (∃ f args, (execOp (fun x => (e x).den) o).run P w = .ok (.enter f args) w ∧ Calls P f args w fun en w' => ∃ r H', en = .returned (SV.den r) ∧ HSat w' H' ∧ Ext w H w' H' ∧ K r H')

theorem new_did {P : Program} {o : Oper} {e : Operand → SV} {w : World} {H : SH} {K : SV → SH → Prop} {t : TypeId} {cs : List SV} (hw : HSat w H) (h : newK P t cs H K)
    (hr : (execOp (fun x => (e x).den) o).run P w = .ok (.value (.pointer (some ⟨w.heap.size, 0, none⟩))) { w with heap := w.heap.push (.cells (denL cs).toArray t (0, 0)) }) : Did P o e w H K := by
  obtain ⟨v, bk, hf, hwn, hc, hd, hk⟩ := newK_spec h w.heap.size
  have := hw.push bk hf hwn _ (hc _ (cellsAt_push w cs t (0, 0) (.inl rfl)))
  exact .inl ⟨v, _, _, .inl (by rw [hd]; exact hr), this.1, this.2, hk⟩

/-! ### stores -/
/-- A thing that fits, and what goes on with it. -/
inductive Pick {α : Type} (p K : α → Prop) : Prop where
  | mk (x : α) (h : p x) (k : K x)

def rowSet {α : Type} (enc : α → List SV) (w' : Nat) (l : List α) (w j f n : Nat) (vs : List SV) (K : List α → Prop) : Prop :=
  if f + n ≤ w' then w = w' ∧ j < l.length ∧ ∀ x, l[j]? = some x → Pick (fun x' => enc x' = setMany (enc x) f vs) fun x' => K (l.set j x')
  else w = w' ∧ f = 0 ∧ ∃ l', l'.flatMap enc = vs ∧ (∀ x ∈ l', (enc x).length = w') ∧ j + l'.length ≤ l.length ∧ K (l.take j ++ l' ++ l.drop (j + l'.length))

def stK (P : Program) (t : TypeId) (a v : SV) (H : SH) (K : SV → SH → Prop) : Prop :=
  match a with
  | .ptr i b w j f => match H[i]? with
    | some (b', bk) => b' = b ∧ match szOf P t with
      | some n =>
        let vs := cellsOf v
        v.cooked = true ∧ vs.length = n ∧ vs.all SV.one = true ∧
        match bk with
        | .lit cs => match Nat.beq (j * w + f) 0 && Nat.beq n cs.length with
          | true => setHK H i (b, .lit vs) (K (.raw undef))
          | false => if j * w + f + n ≤ cs.length then setManyK cs (j * w + f) vs fun cs => setHK H i (b, .lit cs) (K (.raw undef)) else False
        | .tab enc w' l => rowSet enc w' l w j f n vs fun l => setHK H i (b, .tab enc w' l) (K (.raw undef))
        | .vec z c enc w' l => rowSet enc w' l w j f n vs fun l => setHK H i (b, .vec z c enc w' l) (K (.raw undef))
        | _ => False
      | none => False
    | none => False
  | _ => False

theorem setMany_append_left : ∀ (vs cs ds : List SV) (n : Nat), n + vs.length ≤ cs.length → setMany (cs ++ ds) n vs = setMany cs n vs ++ ds
  | [], _, _, _, _ => rfl
  | v :: vs, cs, ds, n, h => by
    simp only [List.length_cons] at h
    rw [setMany, setMany, List.set_append_left _ _ (by omega), setMany_append_left vs _ ds (n + 1) (by simp; omega)]

theorem setMany_append_right : ∀ (vs cs ds : List SV) (n : Nat), setMany (cs ++ ds) (cs.length + n) vs = cs ++ setMany ds n vs
  | [], _, _, _ => rfl
  | v :: vs, cs, ds, n => by
    rw [setMany, setMany, List.set_append_right _ _ (by omega), show cs.length + n - cs.length = n from by omega, show cs.length + n + 1 = cs.length + (n + 1) from by omega, setMany_append_right vs cs _ (n + 1)]

theorem setMany_all : ∀ (vs cs : List SV), vs.length = cs.length → setMany cs 0 vs = vs := by
  have key : ∀ (vs cs pre : List SV), vs.length = cs.length → setMany (pre ++ cs) pre.length vs = pre ++ vs := by
    intro vs
    induction vs with
    | nil => intro cs pre h; cases cs <;> simp_all [setMany]
    | cons v vs ih =>
      intro cs pre h
      cases cs with
      | nil => simp at h
      | cons c cs =>
        have := ih cs (pre ++ [v]) (by simpa using h)
        simp only [List.append_assoc, List.singleton_append, List.length_append, List.length_singleton] at this
        rw [setMany, List.set_append_right _ _ (by omega), Nat.sub_self, List.set_cons_zero, this]
  intro vs cs h
  simpa using key vs cs [] h

theorem flatMap_setMany {α : Type} (enc : α → List SV) (w : Nat) (l : List α) (hok : ∀ x ∈ l, (enc x).length = w) (j f : Nat) (x x' : α) (vs : List SV) (hx : l[j]? = some x) (hf : f + vs.length ≤ w)
    (he : enc x' = setMany (enc x) f vs) : (l.set j x').flatMap enc = setMany (l.flatMap enc) (j * w + f) vs := by
  have hj : j < l.length := (List.getElem?_eq_some_iff.1 hx).1
  have hxl : l[j] = x := (List.getElem?_eq_some_iff.1 hx).2
  have hsplit : l = l.take j ++ x :: l.drop (j + 1) := by rw [← hxl]; simp
  have hlt : (l.take j).flatMap enc = (l.flatMap enc).take (j * w) := (flatMap_take enc w l hok j).symm
  have hlen : ((l.take j).flatMap enc).length = j * w := by
    rw [flatMap_length enc w _ (fun x hx => hok x (List.mem_of_mem_take hx)), List.length_take, Nat.min_eq_left (by omega)]
  have hxw : (enc x).length = w := hok x (List.mem_of_getElem? hx)
  conv => rhs; rw [hsplit]
  rw [List.flatMap_append, List.flatMap_cons, show j * w + f = ((l.take j).flatMap enc).length + f from by rw [hlen], setMany_append_right, setMany_append_left _ _ _ _ (by omega), ← he]
  rw [List.set_eq_take_append_cons_drop, if_pos hj, List.flatMap_append, List.flatMap_cons]

theorem flatMap_setRows {α : Type} (enc : α → List SV) (w : Nat) (l l' : List α) (hok : ∀ x ∈ l, (enc x).length = w) (hok' : ∀ x ∈ l', (enc x).length = w) (j : Nat) (hj : j + l'.length ≤ l.length) :
    (l.take j ++ l' ++ l.drop (j + l'.length)).flatMap enc = setMany (l.flatMap enc) (j * w) (l'.flatMap enc) := by
  have hsplit : l = l.take j ++ ((l.drop j).take l'.length ++ l.drop (j + l'.length)) := by
    rw [← List.drop_drop, List.take_append_drop, List.take_append_drop]
  have hlen : ((l.take j).flatMap enc).length = j * w := by
    rw [flatMap_length enc w _ (fun x hx => hok x (List.mem_of_mem_take hx)), List.length_take, Nat.min_eq_left (by omega)]
  have hmid : (((l.drop j).take l'.length).flatMap enc).length = (l'.flatMap enc).length := by
    rw [flatMap_length enc w _ (fun x hx => hok x (List.mem_of_mem_drop (List.mem_of_mem_take hx))), flatMap_length enc w _ hok', List.length_take, List.length_drop, Nat.min_eq_left (by omega)]
  have e1 : l.flatMap enc = (l.take j).flatMap enc ++ (((l.drop j).take l'.length).flatMap enc ++ (l.drop (j + l'.length)).flatMap enc) := by
    conv => lhs; rw [hsplit]
    simp only [List.flatMap_append]
  have e2 : j * w = ((l.take j).flatMap enc).length + 0 := by rw [hlen]; rfl
  rw [e1, e2, setMany_append_right, setMany_append_left _ _ _ _ (by omega), setMany_all _ _ hmid.symm]
  simp only [List.flatMap_append, List.append_assoc]

theorem rowSet_spec {α : Type} {enc : α → List SV} {w' : Nat} {l : List α} {w j f n : Nat} {vs : List SV} {K : List α → Prop} (hok : ∀ x ∈ l, (enc x).length = w') (hn : vs.length = n) (h : rowSet enc w' l w j f n vs K) :
    ∃ l2, K l2 ∧ (∀ x ∈ l2, (enc x).length = w') ∧ l2.length = l.length ∧ l2.flatMap enc = setMany (l.flatMap enc) (j * w + f) vs ∧ j * w + f + n ≤ (l.flatMap enc).length := by
  unfold rowSet at h
  split at h
  · rename_i hfn
    obtain ⟨rfl, hj, hx⟩ := h
    have hg : l[j]? = some l[j] := List.getElem?_eq_getElem hj
    obtain ⟨x', hx', hk⟩ := hx _ hg
    have hxw : (enc x').length = w := by rw [hx', setMany_length]; exact hok _ (List.getElem_mem hj)
    refine ⟨_, hk, fun y hy => by rcases List.mem_or_eq_of_mem_set hy with h | rfl; exact hok y h; exact hxw, by simp, flatMap_setMany enc w l hok j f _ x' _ hg (by omega) hx', ?_⟩
    rw [flatMap_length enc w l hok]
    have : (j + 1) * w ≤ l.length * w := Nat.mul_le_mul_right _ hj
    rw [Nat.add_mul] at this; omega
  · obtain ⟨rfl, rfl, l', hl', hok', hle, hk⟩ := h
    have hn : l'.length * w = n := by rw [← hn, ← hl', flatMap_length enc w l' hok']
    refine ⟨_, hk, fun y hy => ?_, by simp; omega, by rw [← hl', Nat.add_zero]; exact flatMap_setRows enc w l l' hok hok' j hle, ?_⟩
    · rcases List.mem_append.1 hy with h | h
      · rcases List.mem_append.1 h with h | h
        · exact hok y (List.mem_of_mem_take h)
        · exact hok' y h
      · exact hok y (List.mem_of_mem_drop h)
    · rw [flatMap_length enc w l hok]
      have : (j + l'.length) * w ≤ l.length * w := Nat.mul_le_mul_right _ hle
      rw [Nat.add_mul] at this; omega

/-- Cells are written in the midst. -/
theorem st_mid {P : Program} {w : World} {b : Bs} {pre cs post : List SV} (h : CellsAt w b.n (pre ++ cs ++ post)) (hp : pre.length = b.o) (vs : List SV) (off : Nat) (hle : off + vs.length ≤ cs.length) (hone : vs.all SV.one = true) :
    ∃ w', (storeCells ⟨b.n, b.o + off, none⟩ (denL vs)).run P w = .ok () w' ∧ CellsAt w' b.n (pre ++ setMany cs off vs ++ post) ∧ w'.os = w.os ∧ w'.tape = w.tape ∧ w'.output = w.output ∧ w'.heap.size = w.heap.size ∧ (∀ k, k ≠ b.n → w'.heap[k]? = w.heap[k]?) := by
  obtain ⟨w', h1, h2, h3⟩ := run_storeCells (P := P) (off := b.o + off) vs 0 w _ h (by simp; omega) hone
  refine ⟨w', h1, ?_, h3⟩
  rw [Nat.add_zero, ← hp, List.append_assoc, setMany_append_right, setMany_append_left _ _ _ _ hle, ← List.append_assoc] at h2
  exact h2

/-- A block's cells are others now. -/
def Blk.turned (bk bk' : Blk) : Prop := match bk, bk' with
  | .lit cs, .lit cs' => cs'.length = cs.length
  | .tab enc w l, .tab enc' w' l' => (∀ x ∈ l', (enc' x).length = w') ∧ (l'.flatMap enc').length = (l.flatMap enc).length
  | .vec z c enc w l, .vec z' c' enc' w' l' => z' = z ∧ c' = c ∧ w' = w ∧ (∀ x ∈ l', (enc' x).length = w') ∧ l'.length = l.length ∧ (l'.flatMap enc').length = (l.flatMap enc).length
  | _, _ => False

theorem st_entry {P : Program} {w : World} {H : SH} (hw : HSat w H) {i : Nat} {b : Bs} {bk bk' : Blk} (hi : H[i]? = some (b, bk)) (ht : bk.turned bk') {vs : List SV} {off : Nat} (hc : bk'.cells = setMany bk.cells off vs) (hle : off + vs.length ≤ bk.cells.length)
    (hone : vs.all SV.one = true) (hv : vs ≠ [] ∨ bk.own) : ∃ w', (storeCells ⟨b.n, b.o + off, none⟩ (denL vs)).run P w = .ok () w' ∧ HSat w' (H.set i (b, bk')) ∧ Ext w H w' (H.set i (b, bk')) := by
  have hf : bk.isFam = false := by cases bk <;> first | rfl | cases bk' <;> exact ht.elim
  have hf' : bk'.isFam = false := by cases bk' <;> first | rfl | cases bk <;> exact ht.elim
  have hn' : bk'.isWin = false := by cases bk' <;> first | rfl | cases bk <;> exact ht.elim
  have hb := hw.blk hi hf
  have hown : bk.own := by
    rcases hv with hv | hv
    · cases bk with
      | vec z c enc wd l =>
        intro hz
        have h1 := hb.1.2
        rw [hz.2] at h1
        obtain rfl := List.length_eq_zero_iff.1 (Nat.le_zero.1 h1.1)
        simp [Blk.cells] at hle
        exact hv hle.2
      | lit _ => trivial
      | tab => trivial
      | obj => trivial
      | win => cases bk' <;> exact ht.elim
      | fam => cases hf
      | wins => cases hf
    · exact hv
  have main : ∀ pre post : List SV, pre.length = b.o → CellsAt w b.n (pre ++ bk.cells ++ post) → (∀ w' : World, CellsAt w' b.n (pre ++ bk'.cells ++ post) → BlkAt w' (b, bk')) →
      ∃ w', (storeCells ⟨b.n, b.o + off, none⟩ (denL vs)).run P w = .ok () w' ∧ HSat w' (H.set i (b, bk')) ∧ Ext w H w' (H.set i (b, bk')) := by
    intro pre post hp hcell hback
    obtain ⟨w', h1, h2, h3, h4, h5, h6, h7⟩ := st_mid (P := P) hcell hp vs off hle hone
    have hat := hback w' (by rw [hc]; exact h2)
    have ho : ∀ k, Own (b, bk) k ↔ b.n = k := fun k => by rw [own_atom hf]; exact ⟨fun h => h.2, fun h => ⟨hown, h⟩⟩
    have hsm : ∀ k, k < w.heap.size → ¬ Own (b, bk) k → w'.heap[k]? = w.heap[k]? := fun k _ hk => h7 k (fun e => hk ((ho k).2 e.symm))
    exact ⟨w', h1, hw.upd hi ((entry_atom hf').2 hat) hn' (by omega) hsm (fun k hk => by rw [solid_atom hf'] at hk; exact .inl ((ho k).2 hk.2)), Ext.upd hi h3 h4 h5 (by omega) hsm (fun k hk => by rw [own_atom hf'] at hk; exact .inl ((ho k).2 hk.2))⟩
  cases bk with
  | lit cs =>
    cases bk' <;> try exact ht.elim
    obtain ⟨h0, hcell⟩ := hb.2
    refine main [] [] h0.symm (by simpa [Blk.cells] using hcell) fun w' h => ⟨trivial, h0, by simpa [Blk.cells] using h⟩
  | tab enc wd l =>
    cases bk' <;> try exact ht.elim
    obtain ⟨h0, hcell⟩ := hb.2
    refine main [] [] h0.symm (by simpa [Blk.cells] using hcell) fun w' h => ⟨ht.1, h0, by simpa [Blk.cells] using h⟩
  | vec z c enc wd l =>
    cases bk' <;> try exact ht.elim
    obtain ⟨rfl, rfl, rfl, t1, t2, t3⟩ := ht
    obtain ⟨pre, post, h1, h2, h3⟩ := hb.2 hown
    exact main pre post h1 h3 fun w' h => ⟨⟨t1, by rw [t2]; exact hb.1.2⟩, fun _ => ⟨pre, post, h1, by rw [t3]; exact h2, h⟩⟩
  | win => cases bk' <;> exact ht.elim
  | obj => cases bk' <;> exact ht.elim
  | fam => cases hf
  | wins => cases hf

theorem stK_spec {P : Program} {t : TypeId} {a v : SV} {H : SH} {K : SV → SH → Prop} {w : World} (hw : HSat w H) (h : stK P t a v H K) :
    ∃ H' w', (Instr.storeAt t a.den v.den).run P w = .ok () w' ∧ HSat w' H' ∧ Ext w H w' H' ∧ K (.raw undef) H' := by
  unfold stK at h
  simp only [setManyK_eq, setHK_eq] at h
  split at h <;> try exact h.elim
  rename_i i b wd j f
  split at h <;> try exact h.elim
  rename_i b' bk hi
  obtain ⟨rfl, h⟩ := h
  split at h <;> try exact h.elim
  rename_i n hs
  try simp only at h
  obtain ⟨hraw, hlen, hone, h⟩ := h
  have hraw' := SV.cooked_ne hraw
  have hcd := cellsOf_den v hraw'
  have hne : cellsOf v ≠ [] ∨ bk.own := by
    cases v with
    | agg cs =>
      cases hb : bk with
      | vec z c enc w' l =>
        rw [hb] at h hi
        by_cases h0 : cs = []
        · subst h0
          right
          simp only [rowSet] at h
          intro hz
          have h1 := (hw.blk hi rfl).1.2
          rw [hz.2] at h1
          obtain rfl := List.length_eq_zero_iff.1 (Nat.le_zero.1 h1.1)
          simp only [cellsOf, List.length_nil] at hlen
          subst hlen
          split at h
          · simp at h
          · rename_i hf; obtain ⟨_, hf0, _⟩ := h; omega
        · left; exact h0
      | lit => right; trivial
      | tab => right; trivial
      | obj => right; trivial
      | win => rw [hb] at h; exact h.elim
      | fam => rw [hb] at h; exact h.elim
      | wins => rw [hb] at h; exact h.elim
    | _ => left; simp [cellsOf]
  have run : ∀ (bk' : Blk), bk.turned bk' → bk'.cells = setMany bk.cells (j * wd + f) (cellsOf v) → j * wd + f + n ≤ bk.cells.length →
      ∃ w', (Instr.storeAt t (SV.ptr i b' wd j f).den v.den).run P w = .ok () w' ∧ HSat w' (H.set i (b', bk')) ∧ Ext w H w' (H.set i (b', bk')) := by
    intro bk' ht hc hle
    obtain ⟨w', h1, h2, h3⟩ := st_entry (P := P) hw hi ht hc (by omega) hone hne
    refine ⟨w', ?_, h2, h3⟩
    simp only [Instr.storeAt, SV.den, Instr.sureAddr, storeVar]
    refine (bind_run' (a := (⟨b'.n, b'.o + j * wd + f, none⟩ : Addr)) (w' := w) rfl).trans ?_
    refine (bind_run' (run_sizeOf hs w)).trans ?_
    have hsz : v.den.cells.size = n := by rw [← Array.length_toList, ← hcd, denL_eq, List.length_map, hlen]
    rw [if_neg (by simp [hsz])]
    rw [← hcd, Nat.add_assoc]
    exact h1
  split at h
  · rename_i cs
    split at h
    · rename_i hb
      simp only [Bool.and_eq_true] at hb
      have e1 := Nat.eq_of_beq_eq_true hb.1
      have e2 := Nat.eq_of_beq_eq_true hb.2
      have e3 : setMany cs (j * wd + f) (cellsOf v) = cellsOf v := by
        rw [e1]; exact setMany_all _ _ (by omega)
      obtain ⟨w', r1, r2, r3⟩ := run (.lit (cellsOf v)) (by show (cellsOf v).length = cs.length; omega) (by show cellsOf v = setMany cs _ _; rw [e3]) (by show _ ≤ cs.length; omega)
      exact ⟨_, w', r1, r2, r3, h⟩
    · split at h <;> try exact h.elim
      rename_i hle
      obtain ⟨w', r1, r2, r3⟩ := run (.lit (setMany cs (j * wd + f) (cellsOf v))) (setMany_length _ _ _) rfl hle
      exact ⟨_, w', r1, r2, r3, h⟩
  · rename_i α enc w' l
    have hok : ∀ x ∈ l, (enc x).length = w' := (hw.blk hi rfl).1
    obtain ⟨l2, hk, h2, h3, h4, h5⟩ := rowSet_spec hok hlen h
    obtain ⟨w', r1, r2, r3⟩ := run (.tab enc w' l2) ⟨h2, by rw [h4, setMany_length]⟩ h4 h5
    exact ⟨_, w', r1, r2, r3, hk⟩
  · rename_i α z c enc w' l
    have hok : ∀ x ∈ l, (enc x).length = w' := (hw.blk hi rfl).1.1
    obtain ⟨l2, hk, h2, h3, h4, h5⟩ := rowSet_spec hok hlen h
    obtain ⟨w', r1, r2, r3⟩ := run (.vec z c enc w' l2) ⟨rfl, rfl, rfl, h2, h3, by rw [h4, setMany_length]⟩ h4 h5
    exact ⟨_, w', r1, r2, r3, hk⟩
  · exact h.elim

/-! ### append -/
def rowsIn {α : Type} (enc : α → List SV) (w' : Nat) (L : List α) (w j n sz : Nat) (K : List SV → Prop) : Prop :=
  w = w' ∧ w' = sz ∧ j + n ≤ L.length ∧ K (((L.drop j).take n).flatMap enc)
/-- The cells of the first n elements. -/
def cellsIn (H : SH) (s : SV) (n sz : Nat) (K : List SV → Prop) : Prop :=
  match s with
  | .nils => n = 0 ∧ K []
  | .sl i z b w j l c => match H[i]? with
    | some (b', bk) => b' = b ∧ n = l ∧ match bk with
      | .lit cs => w = sz ∧ ((cs.drop (j * w)).take (n * sz)).length = n * sz ∧ K ((cs.drop (j * w)).take (n * sz))
      | .tab enc w' L => rowsIn enc w' L w j n sz K
      | .win enc w' L => rowsIn enc w' L w j n sz K
      | .vec _ _ enc w' L => rowsIn enc w' L w j n sz K
      | _ => False
    | none => False
  | .str s => sz = 1 ∧ n = s.length ∧ K (s.flatMap encByte)
  | _ => False

theorem rowsIn_spec {α : Type} {enc : α → List SV} {w' : Nat} {L : List α} {w j n sz : Nat} {K : List SV → Prop} (hok : ∀ x ∈ L, (enc x).length = w') (h : rowsIn enc w' L w j n sz K) :
    w = sz ∧ (((L.flatMap enc).drop (j * w)).take (n * sz)).length = n * sz ∧ K (((L.flatMap enc).drop (j * w)).take (n * sz)) := by
  obtain ⟨rfl, rfl, hle, hk⟩ := h
  have e : ((L.flatMap enc).drop (j * w)).take (n * w) = ((L.drop j).take n).flatMap enc := by
    rw [flatMap_drop enc w L hok, flatMap_take enc w _ (fun x hx => hok x (List.mem_of_mem_drop hx))]
  rw [e]
  refine ⟨rfl, ?_, hk⟩
  rw [flatMap_length enc w _ (fun x hx => hok x (List.mem_of_mem_drop (List.mem_of_mem_take hx)))]
  rw [List.length_take, List.length_drop, Nat.min_eq_left (by omega)]

theorem cellsIn_run {P : Program} {H : SH} {s : SV} {n sz : Nat} {K : List SV → Prop} {w0 : World} (hw0 : HSat w0 H) (h : cellsIn H s n sz K) :
    ∃ cs, K cs ∧ cs.length = n * sz ∧ ∀ w, HSat w H → (Builtin.firstCells sz n s.den).run P w = .ok (denL cs).toArray w := by
  unfold cellsIn at h
  split at h <;> try exact h.elim
  · obtain ⟨rfl, hk⟩ := h
    exact ⟨_, hk, by simp, fun w _ => by simp [Builtin.firstCells, SV.den, Sem.run, denL]⟩
  · rename_i i z b wd j l c
    split at h <;> try exact h.elim
    rename_i b' bk hi
    obtain ⟨rfl, rfl, h⟩ := h
    have main : (wd = sz ∧ ((bk.cells.drop (j * wd)).take (n * sz)).length = n * sz ∧ K ((bk.cells.drop (j * wd)).take (n * sz))) →
        ∃ cs, K cs ∧ cs.length = n * sz ∧ ∀ w, HSat w H → (Builtin.firstCells sz n (SV.sl i z b' wd j n c).den).run P w = .ok (denL cs).toArray w := by
      rintro ⟨rfl, hl, hk⟩
      refine ⟨_, hk, hl, fun w hw => ?_⟩
      have hrd := hw.reads hi
      have hle : n * wd = 0 ∨ j * wd + n * wd ≤ bk.cells.length := by
        rw [List.length_take, List.length_drop] at hl; omega
      simp only [SV.den]
      cases hz : nilB z n c with
      | false =>
        simp only [cond_false, Builtin.firstCells, loadCells]
        rcases hle with h0 | hle
        · rw [h0]; simp [loadCellsFrom, denL, Sem.run]
        · rw [run_loadCells hrd (n * wd) 0 #[] (by simpa using hle)]
          simp
      | true =>
        obtain ⟨rfl, rfl, rfl⟩ := nilB_true hz
        cases hq : b'.e.a with
        | none => simp [Builtin.firstCells, hq, denL, Sem.run]
        | some q => simp [Builtin.firstCells, hq, loadCells, loadCellsFrom, denL, Sem.run]
    cases bk with
    | lit cs => exact main h
    | tab enc w' L => exact main (rowsIn_spec (hw0.blk hi rfl).1 h)
    | win enc w' L => exact main (rowsIn_spec (hw0.blk hi rfl).1 h)
    | vec z' c' enc w' L => exact main (rowsIn_spec (hw0.blk hi rfl).1.1 h)
    | obj => exact h.elim
    | fam => exact h.elim
    | wins => exact h.elim
  · rename_i s
    obtain ⟨rfl, rfl, hk⟩ := h
    refine ⟨_, hk, by rw [flatMap_length encByte 1 _ (fun _ _ => rfl)], fun w _ => ?_⟩
    simp only [Builtin.firstCells, SV.den, Sem.run_pure]
    congr 1
    apply Array.ext'
    have : (ByteArray.mk s.toArray).extract 0 s.length = ByteArray.mk s.toArray := by
      apply ByteArray.ext; simp
    rw [this]
    simp only [denL_eq, List.map_flatMap]
    simp [encByte, SV.den, List.flatMap_singleton']
    rw [← List.flatMap_singleton' (s.map _)]
    simp [List.flatMap_map]

def lenIn (x : SV) : Option Nat := match x with
  | .nils => some 0
  | .sl _ _ _ _ _ l _ => some l
  | .str s => some s.length
  | _ => none
/-- Is it a slice of cells that are written out? -/
def litIn (H : SH) (x : SV) : Bool := match x with
  | .sl i _ _ _ _ _ _ => match H[i]? with
    | some (_, .lit _) => true
    | _ => false
  | _ => false
def isIntD (d : TypeDesc) : Bool := d matches .int _

def addRows {α : Type} (one : Bool) (enc : α → List SV) (w n : Nat) (ncs : List SV) (K : List α → Prop) : Prop :=
  match one with
  | true => match n with
    | 1 => Pick (fun x => enc x = ncs) fun x => (enc x).length = w ∧ K [x]
    | _ => ∃ news, news.flatMap enc = ncs ∧ (∀ y ∈ news, (enc y).length = w) ∧ K news
  | false => ∃ news, news.flatMap enc = ncs ∧ (∀ y ∈ news, (enc y).length = w) ∧ K news
theorem addRows_spec {α : Type} {one : Bool} {enc : α → List SV} {w n : Nat} {ncs : List SV} {K : List α → Prop} (h : addRows one enc w n ncs K) : ∃ news, news.flatMap enc = ncs ∧ (∀ y ∈ news, (enc y).length = w) ∧ K news := by
  unfold addRows at h
  split at h
  · split at h
    · obtain ⟨x, h1, h2, h3⟩ := h
      exact ⟨[x], by simpa using h1, fun y hy => by simp at hy; subst hy; exact h2, h3⟩
    · exact h
  · exact h

/-- append(s, x...). -/
def appK (P : Program) (ts : List TypeId) (s x : SV) (H : SH) (K : SV → SH → Prop) : Prop :=
  match ts with
  | [t, tx] => match P.underlying t, P.underlying tx, lenIn s, lenIn x with
    | some (.slice e), some dx, some ls, some n => match szOf P e, zrOf P e, (P.info? e).map (·.bytes) with
      | some (sz + 1), some z, some by_ =>
        isIntD dx = false ∧ z.cooked = true ∧ (cellsOf z).length = sz + 1 ∧
        cellsIn H x n (sz + 1) fun ncs =>
          ncs.all SV.one = true ∧ Nat.blt 0 by_ = true ∧ natK by_ fun by_ => (ls + n + (ls + n) / 4 + 192) * by_ ≤ 281474976710656 ∧
          match s with
          | .nils => ∃ (α : Type) (enc : α → List SV), addRows (litIn H x) enc (sz + 1) n ncs fun news =>
              ∀ (z2 : Bool) (b2 : Bs) (c2 : Nat), news.length ≤ c2 → K (.sl H.length z2 b2 (sz + 1) 0 news.length c2) (H ++ [(b2, .vec z2 c2 enc (sz + 1) news)])
          | .sl i z b w j l c => match H[i]? with
            | some (b', bk) => b' = b ∧ w = sz + 1 ∧ j = 0 ∧ match bk with
              | .vec z' c' enc w' L => w' = w ∧ z' = z ∧ c' = c ∧ l = L.length ∧ addRows (litIn H x) enc w' n ncs fun news =>
                  ∀ (z2 : Bool) (b2 : Bs) (c2 : Nat), (L ++ news).length ≤ c2 → setHK H i (b2, .vec z2 c2 enc w' (L ++ news)) (K (.sl i z2 b2 w 0 (L ++ news).length c2))
              | .lit cs => z = false ∧ c = l ∧ ∃ (α : Type) (enc : α → List SV) (L : List α), L.flatMap enc = cs ∧ L.length = l ∧ (∀ x ∈ L, (enc x).length = sz + 1) ∧ addRows (litIn H x) enc (sz + 1) n ncs fun news =>
                  ∀ (z2 : Bool) (b2 : Bs) (c2 : Nat), (L ++ news).length ≤ c2 → setHK H i (b2, .vec z2 c2 enc (sz + 1) (L ++ news)) (K (.sl i z2 b2 w 0 (L ++ news).length c2))
              | _ => False
            | none => False
          | _ => False
      | _, _, _ => False
    | _, _, _, _ => False
  | _ => False

theorem zeroCells_den (cs : List SV) (m : Nat) : Builtin.zeroCells (denL cs).toArray m = (denL ((List.replicate m cs).flatten)).toArray := by
  have hl : (denL cs).length = cs.length := by rw [denL_eq, List.length_map]
  apply Array.ext'
  simp only [Builtin.zeroCells, List.size_toArray, Array.toList_map, Array.toList_range, hl]
  induction m with
  | zero => simp [denL]
  | succ m ih =>
    rw [List.replicate_succ', List.flatten_append, denL_append, ← ih, Nat.add_mul, Nat.one_mul, List.range_add, List.map_append]
    congr 1
    apply List.ext_getElem
    · simp [denL_eq]
    · intro k h1 h2
      have hk : k < cs.length := by simpa using h1
      simp [denL_eq, hk, Nat.mod_eq_of_lt]

theorem zeroCells_eq (z : SV) (m : Nat) (hz : ∀ x, z ≠ .raw x) : Builtin.zeroCells z.den.cells m = (denL ((List.replicate m (cellsOf z)).flatten)).toArray := by
  have hcd := cellsOf_den z hz
  have ha : z.den.cells = (denL (cellsOf z)).toArray := by rw [hcd]
  rw [ha, zeroCells_den]

theorem flatMap_replicate {α : Type} (enc : α → List SV) (z : α) (m : Nat) : (List.replicate m z).flatMap enc = (List.replicate m (enc z)).flatten := by
  rw [List.flatMap_def]; simp

theorem append_room {P : Program} {t tx ty e : TypeId} {dx : TypeDesc} {sz ls n c : Nat} {base : Option Addr} {x : Value} {ncs : Array Value} {w w' : World} (ht : P.underlying t = some (.slice e))
    (htx : P.underlying tx = some dx) (hdx : isIntD dx = false) (hsz : szOf P e = some sz) (hlenx : (Builtin.lenOf x).run P w = .ok n w) (hnr : (Builtin.firstCells sz n x).run P w = .ok ncs w)
    (hroom : ls + n ≤ c) (hst : (∃ a, base = some a ∧ (storeCells (a.add (ls * sz)) ncs.toList).run P w = .ok () w') ∨ (base = none ∧ w' = w)) :
    (Builtin.append_ #[t, tx] ty #[.slice base ls c, x]).run P w = .ok (.slice base (ls + n) c) w' := by
  rcases hst with ⟨a, rfl, hst⟩ | ⟨rfl, rfl⟩
  · cases dx <;> first
      | (simp [isIntD] at hdx; done)
      | simp [Builtin.append_, run_underlying ht, run_underlying htx, run_sizeOf hsz, hlenx, hnr, hroom, hst, Result.andThen]
  · cases dx <;> first
      | (simp [isIntD] at hdx; done)
      | simp [Builtin.append_, run_underlying ht, run_underlying htx, run_sizeOf hsz, hlenx, hnr, hroom, Result.andThen]

theorem append_empty {P : Program} {t tx ty e : TypeId} {dx : TypeDesc} {sz : Nat} (base : Option Addr) {x : Value} {w : World} (ht : P.underlying t = some (.slice e))
    (htx : P.underlying tx = some dx) (hdx : isIntD dx = false) (hsz : szOf P e = some sz) (hlenx : (Builtin.lenOf x).run P w = .ok 0 w) (hnr : (Builtin.firstCells sz 0 x).run P w = .ok #[] w) :
    (Builtin.append_ #[t, tx] ty #[.slice base 0 0, x]).run P w = .ok (.slice base 0 0) w := by
  cases base with
  | none => exact append_room ht htx hdx hsz hlenx hnr (by simp) (.inr ⟨rfl, rfl⟩)
  | some a => exact append_room ht htx hdx hsz hlenx hnr (by simp) (.inl ⟨a, rfl, by simp [storeCells, Sem.run]⟩)

theorem nextcap_le {need old : Nat} (h : old < need) : Builtin.nextslicecap need old ≤ need + need / 4 + 192 := by
  unfold Builtin.nextslicecap
  split
  · omega
  · split
    · omega
    · rw [growBy_four]
      repeat' split
      all_goals omega

theorem append_grow {P : Program} {t tx ty e : TypeId} {dx : TypeDesc} {inf : TypeInfo} {sz ls n c : Nat} {base : Option Addr} {x z : Value} {ncs ocs : Array Value} {w : World} (ht : P.underlying t = some (.slice e))
    (htx : P.underlying tx = some dx) (hdx : isIntD dx = false) (hsz : szOf P e = some sz) (hinf : P.info? e = some inf) (hlenx : (Builtin.lenOf x).run P w = .ok n w)
    (hnr : (Builtin.firstCells sz n x).run P { w with drawn := w.drawn + 1 } = .ok ncs { w with drawn := w.drawn + 1 })
    (hor : (Builtin.firstCells sz ls (.slice base ls c)).run P { w with drawn := w.drawn + 1 } = .ok ocs { w with drawn := w.drawn + 1 })
    (hz : ∀ w', (zeroValue e).run P w' = .ok z w') (hroom : c < ls + n) (h47 : (ls + n + (ls + n) / 4 + 192) * inf.bytes ≤ 281474976710656) (h63 : ls + n ≤ 9223372036854775807) :
    (Builtin.append_ #[t, tx] ty #[.slice base ls c, x]).run P w = .ok (.slice (some ⟨w.heap.size, 0, none⟩) (ls + n) (Question.cut (.appendCap (ls + n) c e) (w.tape w.drawn (.appendCap (ls + n) c e))))
      { w with drawn := w.drawn + 1, heap := w.heap.push (.cells (ocs ++ ncs ++ Builtin.zeroCells z.cells (Question.cut (.appendCap (ls + n) c e) (w.tape w.drawn (.appendCap (ls + n) c e)) - (ls + n))) e) } := by
  have hz1 : ¬ (IntKind.i64.max < ((ls + n : Nat) : Int)) := by rw [i64max]; omega
  have hfit : Builtin.nextslicecap (ls + n) c * inf.bytes ≤ 281474976710656 := Nat.le_trans (Nat.mul_le_mul_right _ (nextcap_le (need := ls + n) (old := c) (by omega))) h47
  have hz2 : ¬ (281474976710656 < Builtin.nextslicecap (ls + n) c * inf.bytes) := by omega
  have hask : ∀ m w', (askRoom m).run P w' = .ok () w' := fun m w' => by unfold askRoom; split <;> rfl
  have hchoose : (choose (.appendCap (ls + n) c e)).run P w = .ok (Question.cut (.appendCap (ls + n) c e) (w.tape w.drawn (.appendCap (ls + n) c e))) { w with drawn := w.drawn + 1 } := by
    simp [choose, Sem.run, Question.forced]
  have hbytes : ∀ w', (typeInfo e).run P w' = .ok inf w' := fun w' => by simp [typeInfo, program, bind, Sem.bind, Sem.run, hinf, pure]
  have hnot : ¬ (ls + n ≤ c) := by omega
  have hnew : ∀ (o : Obj) w', (newObj o).run P w' = .ok w'.heap.size { w' with heap := w'.heap.push o } := fun o w' => rfl
  cases dx <;> first
    | (simp [isIntD] at hdx; done)
    | simp only [Builtin.append_, List.getElem?_toArray, List.getElem?_cons_zero, List.getElem?_cons_succ, Sem.run_bind, run_underlying ht, run_underlying htx, run_sizeOf hsz, Result.andThen, Sem.run_pure, Bool.false_eq_true, if_false, hlenx,
        hnot, Sem.run_ite, gt_iff_lt, hz1, false_and, hbytes, Nat.reducePow, hz2, hchoose, hask, hor, hnr, hz, newRow, hnew, Bool.not_false, if_true]


theorem cells_push_at (w : World) (cs : List SV) (e : TypeId) : CellsAt { w with drawn := w.drawn + 1, heap := w.heap.push (.cells (denL cs).toArray e) } w.heap.size cs :=
  ⟨e, (0, 0), by simp, .inl rfl⟩

theorem setMany_zero : ∀ (vs post : List SV), vs.length ≤ post.length → setMany post 0 vs = vs ++ post.drop vs.length := by
  have key : ∀ (vs post pre : List SV), vs.length ≤ post.length → setMany (pre ++ post) pre.length vs = pre ++ vs ++ post.drop vs.length := by
    intro vs
    induction vs with
    | nil => intro post pre h; simp [setMany]
    | cons v vs ih =>
      intro post pre h
      cases post with
      | nil => simp at h
      | cons c cs =>
        have := ih cs (pre ++ [v]) (by simpa using h)
        simp only [List.append_assoc, List.singleton_append, List.length_append, List.length_singleton] at this
        rw [setMany, List.set_append_right _ _ (by omega), Nat.sub_self, List.set_cons_zero, this]
        simp
  intro vs cs h
  simpa using key vs cs [] h

/-- What an append runs to. -/
structure AppR (P : Program) (t tx ty e : TypeId) (sz n : Nat) (x : Value) (z : SV) (ncs : List SV) (by_ : Nat) : Prop where
  ht : P.underlying t = some (.slice e)
  hdx : ∃ dx, P.underlying tx = some dx ∧ isIntD dx = false
  hsz : szOf P e = some (sz + 1)
  hinf : ∃ inf, P.info? e = some inf ∧ inf.bytes = by_
  hz : zrOf P e = some z
  hck : z.cooked = true
  hlenx : ∀ w', (Builtin.lenOf x).run P w' = .ok n w'

/-- A new row, in a new block. -/
theorem app_grow {P : Program} {t tx ty e : TypeId} {sz n : Nat} {x : Value} {z : SV} {ncs : List SV} {by_ : Nat} (A : AppR P t tx ty e sz n x z ncs by_) {w : World} {H : SH} (hw : HSat w H)
    (hnr : ∀ w, HSat w H → (Builtin.firstCells (sz + 1) n x).run P w = .ok (denL ncs).toArray w) {base : Option Addr} {ls c : Nat} {ocs : List SV}
    (hor : ∀ w, HSat w H → (Builtin.firstCells (sz + 1) ls (.slice base ls c)).run P w = .ok (denL ocs).toArray w) (hgrow : c < ls + n) (h47 : (ls + n + (ls + n) / 4 + 192) * by_ ≤ 281474976710656) (h63 : ls + n ≤ 9223372036854775807) :
    ∃ (c' : Nat) (tail : List SV), (ls + n ≤ c' ∧ c' ≤ 9223372036854775807) ∧ tail.length = (c' - (ls + n)) * (cellsOf z).length ∧
      (Builtin.append_ #[t, tx] ty #[.slice base ls c, x]).run P w = .ok (.slice (some ⟨w.heap.size, 0, none⟩) (ls + n) c') { w with drawn := w.drawn + 1, heap := w.heap.push (.cells (denL (ocs ++ ncs ++ tail)).toArray e) } := by
  obtain ⟨dx, htx, hdx⟩ := A.hdx
  obtain ⟨inf, hinf, hinfb⟩ := A.hinf
  let c' := Question.cut (.appendCap (ls + n) c e) (w.tape w.drawn (.appendCap (ls + n) c e))
  have hcge : ls + n ≤ c' := by simp [c', Question.cut]
  have hcle : c' ≤ 9223372036854775807 := by
    have hm : ∀ t : Nat, ls + n + t % (2 ^ 63 - (ls + n)) ≤ 9223372036854775807 := fun t => by
      have := Nat.mod_lt t (show 0 < 2 ^ 63 - (ls + n) by omega)
      omega
    exact hm _
  refine ⟨c', (List.replicate (c' - (ls + n)) (cellsOf z)).flatten, ⟨hcge, hcle⟩, by simp, ?_⟩
  have := append_grow (ty := ty) A.ht htx hdx A.hsz hinf (A.hlenx w) (hnr _ hw.drew) (hor _ hw.drew) (run_zero A.hz) hgrow (by rw [hinfb]; exact h47) h63
  refine this.trans ?_
  rw [zeroCells_eq z _ (SV.cooked_ne A.hck)]
  simp only [denL_append]
  simp [c']

theorem mul_le_of {a b sz : Nat} (h : a ≤ b) : a * sz ≤ b * sz := Nat.mul_le_mul_right _ h

theorem app_sl {P : Program} {t tx ty e : TypeId} {sz n : Nat} {x : Value} {z : SV} {ncs : List SV} {by_ : Nat} (A : AppR P t tx ty e sz n x z ncs by_) {w : World} {H : SH} (hw : HSat w H)
    (hnr : ∀ w, HSat w H → (Builtin.firstCells (sz + 1) n x).run P w = .ok (denL ncs).toArray w) (hone : ncs.all SV.one = true) (hzl : (cellsOf z).length = sz + 1)
    {i : Nat} {b : Bs} {bk : Blk} (hi : H[i]? = some (b, bk)) (hf : bk.isFam = false) {α : Type} {enc : α → List SV} {L news : List α} (hbc : bk.cells = L.flatMap enc) (hok : ∀ y ∈ L, (enc y).length = sz + 1) (hnok : ∀ y ∈ news, (enc y).length = sz + 1)
    (hnews : news.flatMap enc = ncs) (hnn : news.length = n) {zz : Bool} {c : Nat} (hLc : L.length ≤ c ∧ c ≤ 9223372036854775807) (h47 : (L.length + n + (L.length + n) / 4 + 192) * by_ ≤ 281474976710656) (h63 : L.length + n ≤ 9223372036854775807)
    (hmid : nilB zz L.length c = true ∨ (nilB zz L.length c = false ∧ bk.own ∧ ∃ pre post, pre.length = b.o ∧ c * (sz + 1) ≤ (L.flatMap enc).length + post.length ∧ CellsAt w b.n (pre ++ L.flatMap enc ++ post)))
    {K : SV → SH → Prop} (hk : ∀ (z2 : Bool) (b2 : Bs) (c2 : Nat), L.length + n ≤ c2 → K (.sl i z2 b2 (sz + 1) 0 (L.length + n) c2) (H.set i (b2, .vec z2 c2 enc (sz + 1) (L ++ news)))) :
    ∃ v H' w', (Builtin.append_ #[t, tx] ty #[(SV.sl i zz b (sz + 1) 0 L.length c).den, x]).run P w = .ok v.den w' ∧ HSat w' H' ∧ Ext w H w' H' ∧ K v H' := by
  obtain ⟨dx, htx, hdx⟩ := A.hdx
  have hnl : ncs.length = n * (sz + 1) := by rw [← hnews, flatMap_length enc (sz + 1) news hnok, hnn]
  have hLl : (L.flatMap enc).length = L.length * (sz + 1) := flatMap_length enc (sz + 1) L hok
  have hall : ∀ y ∈ L ++ news, (enc y).length = sz + 1 := fun y hy => by rcases List.mem_append.1 hy with h | h; exact hok y h; exact hnok y h
  have hlen : (L ++ news).length = L.length + n := by simp [hnn]
  -- a new block
  have grow : ∀ base : Option Addr, (∀ w, HSat w H → (Builtin.firstCells (sz + 1) L.length (.slice base L.length c)).run P w = .ok (denL (L.flatMap enc)).toArray w) → c < L.length + n →
      ∃ v H' w', (Builtin.append_ #[t, tx] ty #[.slice base L.length c, x]).run P w = .ok v.den w' ∧ HSat w' H' ∧ Ext w H w' H' ∧ K v H' := by
    intro base hor hgrow
    obtain ⟨c', tail, hc', htl, hrun⟩ := app_grow A hw hnr hor hgrow h47 h63
    have hsame : ∀ k, k < w.heap.size → ({ w with drawn := w.drawn + 1, heap := w.heap.push (.cells (denL (L.flatMap enc ++ ncs ++ tail)).toArray e) } : World).heap[k]? = w.heap[k]? := fun k hk => by
      show (w.heap.push _)[k]? = _
      rw [Array.getElem?_push, if_neg (by omega)]
    have hat : BlkAt { w with drawn := w.drawn + 1, heap := w.heap.push (.cells (denL (L.flatMap enc ++ ncs ++ tail)).toArray e) } (⟨w.heap.size, 0⟩, .vec false c' enc (sz + 1) (L ++ news)) := by
      refine ⟨⟨hall, by rw [hlen]; exact hc'⟩, fun _ => ⟨[], tail, rfl, ?_, ?_⟩⟩
      · rw [List.flatMap_append, List.length_append, hLl, hnews, hnl, htl, hzl]
        rw [← Nat.add_mul, ← Nat.add_mul]
        exact Nat.mul_le_mul_right _ (by omega)
      · simp only [List.nil_append, List.flatMap_append, hnews]
        exact cells_push_at w _ e
    refine ⟨_, _, _, ?_, hw.upd (p' := (⟨w.heap.size, 0⟩, .vec false c' enc (sz + 1) (L ++ news))) hi ((entry_atom rfl).2 hat) rfl (by simp) (fun k hk _ => hsame k hk) (fun k hk => ?_), Ext.upd hi rfl rfl rfl (by simp) (fun k hk _ => hsame k hk) (fun k hk => ?_), hk false ⟨w.heap.size, 0⟩ c' hc'.1⟩
    · rw [hrun]; simp [SV.den, nilB_false]
    · rw [solid_atom rfl] at hk; exact .inr (Nat.le_of_eq hk.2)
    · rw [own_atom rfl] at hk; exact .inr (Nat.le_of_eq hk.2)
  simp only [SV.den]
  rcases hmid with hz | ⟨hz, hown, pre, post, hp, hroom, hcell⟩
  · rw [hz]
    obtain ⟨rfl, hl0, rfl⟩ := nilB_true hz
    obtain rfl := List.length_eq_zero_iff.1 hl0
    by_cases hn : n = 0
    · subst hn
      obtain rfl := List.length_eq_zero_iff.1 hnn
      have hat : BlkAt w (b, .vec true 0 enc (sz + 1) (([] : List α) ++ [])) := ⟨⟨fun y hy => by simp at hy, by simp⟩, fun h => absurd ⟨rfl, rfl⟩ h⟩
      have hnc : ncs = [] := List.length_eq_zero_iff.1 (by rw [hnl, Nat.zero_mul])
      have hno : ¬ (Blk.vec true 0 enc (sz + 1) (([] : List α) ++ [])).own := fun h => h ⟨rfl, rfl⟩
      refine ⟨_, _, w, append_empty b.e.a A.ht htx hdx A.hsz (A.hlenx w) ((hnr w hw).trans (by rw [hnc]; rfl)), hw.upd (p' := (b, .vec true 0 enc (sz + 1) ([] ++ []))) hi ((entry_atom rfl).2 hat) rfl (Nat.le_refl _) (fun _ _ _ => rfl) (fun k hk => ?_), Ext.upd hi rfl rfl rfl (Nat.le_refl _) (fun _ _ _ => rfl) (fun k hk => ?_), hk true b 0 (by simp)⟩
      · rw [solid_atom rfl] at hk
        rcases hk.1 with h | h
        · exact absurd h hno
        · cases h.1
      · rw [own_atom rfl] at hk; exact absurd hk.1 hno
    · refine grow b.e.a (fun w _ => ?_) (by simp; omega)
      cases b.e.a <;> simp [Builtin.firstCells, Sem.run, loadCells, loadCellsFrom, denL]
  · rw [hz]
    have hrd : ∀ w, HSat w H → (Builtin.firstCells (sz + 1) L.length (.slice (some ⟨b.n, b.o + 0 * (sz + 1), none⟩) L.length c)).run P w = .ok (denL (L.flatMap enc)).toArray w := by
      intro w hw
      have hrd := hw.reads hi
      rw [hbc] at hrd
      simp only [Builtin.firstCells, loadCells]
      rw [run_loadCells hrd (L.length * (sz + 1)) 0 #[] (by omega)]
      rw [Nat.zero_mul, Nat.zero_add, List.drop_zero, List.take_of_length_le (by omega)]
      simp
    by_cases hc : L.length + n ≤ c
    · have hpl : n * (sz + 1) ≤ post.length := by
        have := mul_le_of (sz := sz + 1) hc
        rw [Nat.add_mul] at this
        omega
      obtain ⟨w', h1, h2, h3, h4, h5, h6, h7⟩ := run_storeCells (P := P) (b := b.n) (off := b.o + L.length * (sz + 1)) ncs 0 w _ hcell (by simp only [List.length_append, hLl, hnl]; omega) hone
      rw [Nat.add_zero, ← hp, ← hLl, ← List.length_append, ← Nat.add_zero (pre ++ L.flatMap enc).length, setMany_append_right, setMany_zero _ _ (by omega)] at h2
      have hat : BlkAt w' (b, .vec zz c enc (sz + 1) (L ++ news)) := by
        refine ⟨⟨hall, by rw [hlen]; exact ⟨hc, hLc.2⟩⟩, fun _ => ⟨pre, post.drop ncs.length, hp, ?_, ?_⟩⟩
        · rw [List.flatMap_append, List.length_append, hnews, List.length_drop]; omega
        · rw [List.flatMap_append, hnews]
          simpa only [List.append_assoc] using h2
      have ho : ∀ k, Own (b, bk) k ↔ b.n = k := fun k => by rw [own_atom hf]; exact ⟨fun h => h.2, fun h => ⟨hown, h⟩⟩
      have hsm : ∀ k, k < w.heap.size → ¬ Own (b, bk) k → w'.heap[k]? = w.heap[k]? := fun k _ hk => h7 k (fun e => hk ((ho k).2 e.symm))
      refine ⟨_, _, w', ?_, hw.upd hi ((entry_atom rfl).2 hat) rfl (by omega) hsm (fun k hk => ?_), Ext.upd hi h3 h4 h5 (by omega) hsm (fun k hk => ?_), hk zz b c hc⟩
      · have hst := append_room (ty := ty) (w' := w') A.ht htx hdx A.hsz (A.hlenx w) (hnr w hw) hc (.inl ⟨⟨b.n, b.o + 0 * (sz + 1), none⟩, rfl, by rw [addr_add]; simpa using h1⟩)
        simp only [cond_false]
        rw [hst]
        have : nilB zz (L.length + n) c = false := by
          cases h : nilB zz (L.length + n) c with
          | false => rfl
          | true =>
            obtain ⟨q1, q2, q3⟩ := nilB_true h
            have : L.length = 0 := by omega
            rw [q1, q3, this] at hz
            cases hz
        simp [SV.den, this]
      · rw [solid_atom rfl] at hk; exact .inl ((ho k).2 hk.2)
      · rw [own_atom rfl] at hk; exact .inl ((ho k).2 hk.2)
    · exact grow _ hrd (by omega)

theorem appK_run {P : Program} {ty : TypeId} {ts : List TypeId} {s x : SV} {H : SH} {K : SV → SH → Prop} {w : World} (hw : HSat w H) (h : appK P ts s x H K) :
    ∃ v H' w', (Builtin.append_ ts.toArray ty #[s.den, x.den]).run P w = .ok v.den w' ∧ HSat w' H' ∧ Ext w H w' H' ∧ K v H' := by
  unfold appK at h
  simp only [setHK_eq, natK_eq] at h
  split at h <;> try exact h.elim
  rename_i t tx
  split at h <;> try exact h.elim
  rename_i e dx ls n ht htx hls hn
  split at h <;> try exact h.elim
  rename_i sz z by_ hsz hz hby
  obtain ⟨hdx, hraw, hzl, hci⟩ := h
  obtain ⟨ncs, h, hnl, hnr⟩ := cellsIn_run (P := P) hw hci
  clear hci
  obtain ⟨hone, hb0, h47, h⟩ := h
  have hbyi : ∃ i, P.info? e = some i ∧ i.bytes = by_ := by
    cases hi : P.info? e with
    | none => simp [hi] at hby
    | some i => simp [hi] at hby; exact ⟨i, rfl, hby⟩
  have hlenx : ∀ w', (Builtin.lenOf x.den).run P w' = .ok n w' := fun w' => by
    cases x with
    | sl i zz b wd j l c =>
      simp [lenIn] at hn
      subst hn
      simp only [SV.den]
      cases hz : nilB zz l c with
      | false => simp [Builtin.lenOf, Sem.run]
      | true => obtain ⟨rfl, rfl, rfl⟩ := nilB_true hz; simp [Builtin.lenOf, Sem.run]
    | nils => simp [lenIn] at hn; subst hn; simp [Builtin.lenOf, SV.den, Sem.run]
    | str s => simp [lenIn] at hn; subst hn; simp [Builtin.lenOf, SV.den, Sem.run, ByteArray.size]
    | _ => simp [lenIn] at hn
  have A : AppR P t tx ty e sz n x.den z ncs by_ := ⟨ht, ⟨dx, htx, hdx⟩, hsz, hbyi, hz, hraw, hlenx⟩
  have hb0' : 0 < by_ := by simpa using hb0
  have h63 : ls + n ≤ 9223372036854775807 := by
    have : (ls + n + (ls + n) / 4 + 192) * 1 ≤ (ls + n + (ls + n) / 4 + 192) * by_ := Nat.mul_le_mul_left _ (by omega)
    omega
  split at h
  · -- nil, by its name
    simp only [lenIn, Option.some.injEq] at hls
    subst hls
    obtain ⟨α, enc, h⟩ := h
    obtain ⟨news, hnews, hnok, hk⟩ := addRows_spec h
    have hnn : news.length = n := by
      have := flatMap_length enc (sz + 1) news hnok
      rw [hnews, hnl] at this
      exact (Nat.eq_of_mul_eq_mul_right (by omega) this).symm
    rw [hnn] at hk
    by_cases h0 : n = 0
    · subst h0
      obtain rfl := List.length_eq_zero_iff.1 hnn
      have hat : BlkAt w (⟨0, 0⟩, .vec true 0 enc (sz + 1) ([] : List α)) := ⟨⟨fun y hy => by simp at hy, by simp⟩, fun h => absurd ⟨rfl, rfl⟩ h⟩
      have hno : ¬ (Blk.vec true 0 enc (sz + 1) ([] : List α)).own := fun h => h ⟨rfl, rfl⟩
      have hns : ∀ k, ¬ Solid ((⟨0, 0⟩, .vec true 0 enc (sz + 1) ([] : List α)) : Bs × Blk) k := fun k hk => by
        rw [solid_atom rfl] at hk
        rcases hk.1 with h | h
        · exact hno h
        · cases h.1
      refine ⟨_, _, w, append_room A.ht htx hdx A.hsz (A.hlenx w) (hnr w hw) (by simp) (.inr ⟨rfl, rfl⟩), hw.add (p' := (⟨0, 0⟩, .vec true 0 enc (sz + 1) [])) ((entry_atom rfl).2 hat) (fun _ _ => rfl) (fun k hk => absurd hk (hns k)), Ext.add rfl rfl rfl (Nat.le_refl _) (fun _ _ => rfl) (fun k hk => absurd hk.solid (hns k)), hk true ⟨0, 0⟩ 0 (by simp)⟩
    · obtain ⟨c', tail, hc', htl, hrun⟩ := app_grow A hw hnr (base := none) (ls := 0) (c := 0) (ocs := []) (fun w _ => by simp [Builtin.firstCells, Sem.run, denL]) (by omega) h47 h63
      have hsame : ∀ k, k < w.heap.size → ({ w with drawn := w.drawn + 1, heap := w.heap.push (.cells (denL ([] ++ ncs ++ tail)).toArray e) } : World).heap[k]? = w.heap[k]? := fun k hk => by
        show (w.heap.push _)[k]? = _
        rw [Array.getElem?_push, if_neg (by omega)]
      have hat : BlkAt { w with drawn := w.drawn + 1, heap := w.heap.push (.cells (denL ([] ++ ncs ++ tail)).toArray e) } (⟨w.heap.size, 0⟩, .vec false c' enc (sz + 1) news) := by
        refine ⟨⟨hnok, by omega⟩, fun _ => ⟨[], tail, rfl, ?_, ?_⟩⟩
        · rw [hnews, hnl, htl, hzl, ← Nat.add_mul]
          exact Nat.mul_le_mul_right _ (by omega)
        · simp only [List.nil_append, hnews]
          exact cells_push_at w _ e
      refine ⟨_, _, _, ?_, hw.add (p' := (⟨w.heap.size, 0⟩, .vec false c' enc (sz + 1) news)) ((entry_atom rfl).2 hat) hsame (fun k hk => ?_), Ext.add rfl rfl rfl (by simp) hsame (fun k hk => ?_), hk false ⟨w.heap.size, 0⟩ c' (by omega)⟩
      · refine hrun.trans ?_
        simp [SV.den, nilB_false]
      · rw [solid_atom rfl] at hk; exact Nat.le_of_eq hk.2
      · rw [own_atom rfl] at hk; exact Nat.le_of_eq hk.2
  · rename_i i zz b wd j l c
    simp only [lenIn, Option.some.injEq] at hls
    subst hls
    split at h <;> try exact h.elim
    rename_i b' bk hi
    obtain ⟨rfl, rfl, rfl, h⟩ := h
    split at h <;> try exact h.elim
    · rename_i α z' c' enc w' L
      obtain ⟨rfl, rfl, rfl, rfl, h⟩ := h
      obtain ⟨news, hnews, hnok, hk⟩ := addRows_spec h
      have hnn : news.length = n := by
        have := flatMap_length enc (sz + 1) news hnok
        rw [hnews, hnl] at this
        exact (Nat.eq_of_mul_eq_mul_right (by omega) this).symm
      obtain ⟨⟨hok, hLc⟩, hh⟩ := hw.blk hi rfl
      rw [show (L ++ news).length = L.length + n by simp [hnn]] at hk
      refine app_sl A hw hnr hone hzl hi rfl rfl hok hnok hnews hnn hLc h47 h63 ?_ hk
      by_cases hzc : z' = true ∧ c' = 0
      · left
        rw [hzc.1, hzc.2, show L.length = 0 by omega]
        rfl
      · right
        refine ⟨?_, hzc, hh hzc⟩
        cases h : nilB z' L.length c' with
        | false => rfl
        | true => obtain ⟨q1, q2, q3⟩ := nilB_true h; exact absurd ⟨q1, q3⟩ hzc
    · rename_i cs
      obtain ⟨rfl, rfl, α, enc, L, hL, rfl, hok, h⟩ := h
      obtain ⟨news, hnews, hnok, hk⟩ := addRows_spec h
      have hnn : news.length = n := by
        have := flatMap_length enc (sz + 1) news hnok
        rw [hnews, hnl] at this
        exact (Nat.eq_of_mul_eq_mul_right (by omega) this).symm
      obtain ⟨_, h0, hh⟩ := hw.blk hi rfl
      rw [show (L ++ news).length = L.length + n by simp [hnn]] at hk
      refine app_sl A hw hnr hone hzl hi rfl hL.symm hok hnok hnews hnn ⟨Nat.le_refl _, by omega⟩ h47 h63 (.inr ⟨rfl, trivial, [], [], h0.symm, ?_, by simpa [hL] using hh⟩) hk
      rw [flatMap_length enc (sz + 1) L hok]; simp
  · exact h.elim
end Go.Sy
