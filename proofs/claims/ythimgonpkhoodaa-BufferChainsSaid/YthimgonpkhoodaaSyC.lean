/- SY, part C: operations that only look: what each yields. Own work. -/
import Derived.Test.YthimgonpkhoodaaSyB
namespace Go.Sy
open Go.RowKit
set_option linter.unusedVariables false
set_option linter.unusedSimpArgs false

def szOf (P : Program) (t : TypeId) : Option Nat := (P.info? t).map (·.size)
def isAggT (P : Program) (t : TypeId) : Bool := match P.underlying t with | some (.struct _) | some (.array ..) => true | _ => false

theorem run_sizeOf {P : Program} {t : TypeId} {n : Nat} (h : szOf P t = some n) (w : World) : (sizeOf t).run P w = .ok n w := by
  unfold szOf at h
  cases hi : P.info? t with
  | none => simp [hi] at h
  | some i => simp [hi] at h; simp [sizeOf, typeInfo, program, bind, Sem.bind, Sem.run, hi, h, pure]

theorem run_underlying {P : Program} {t : TypeId} {d : TypeDesc} (h : P.underlying t = some d) (w : World) : (underlying t).run P w = .ok d w := by
  simp [underlying, program, bind, Sem.bind, Sem.run, h, pure]

theorem bind_run' {α β : Type} {P : Program} {s : Sem α} {f : α → Sem β} {w w' : World} {a : α} (h : s.run P w = .ok a w') : (s >>= f).run P w = (f a).run P w' := by
  rw [Sem.run_bind, h]; rfl

theorem run_isAgg {P : Program} {t : TypeId} {d : TypeDesc} (h : P.underlying t = some d) (w : World) : (isAgg t).run P w = .ok (isAggT P t) w := by
  unfold isAgg
  rw [bind_run' (run_underlying h w)]
  unfold isAggT
  rw [h]
  cases d <;> rfl

/-! ### blocks read -/
def rowGet {α : Type} (enc : α → List SV) (w' : Nat) (l : List α) (w j f n : Nat) (K : List SV → Prop) : Prop :=
  if f + n ≤ w' then w = w' ∧ j < l.length ∧ ∀ x, l[j]? = some x → forceL (((enc x).drop f).take n) K
  else w = w' ∧ f = 0 ∧ (n / w') * w' = n ∧ j + n / w' ≤ l.length ∧ K (((l.drop j).take (n / w')).flatMap enc)
def blkGet (bk : Blk) (w j f n : Nat) (K : List SV → Prop) : Prop :=
  match bk with
  | .lit cs => forceL ((cs.drop (j * w + f)).take n) K
  | .tab enc w' l => rowGet enc w' l w j f n K
  | .win enc w' l => rowGet enc w' l w j f n K
  | .vec _ _ enc w' l => rowGet enc w' l w j f n K
  | _ => False

theorem flatMap_drop {α : Type} (enc : α → List SV) (w : Nat) : ∀ (l : List α), (∀ x ∈ l, (enc x).length = w) → ∀ j, (l.flatMap enc).drop (j * w) = (l.drop j).flatMap enc
  | [], _, j => by simp
  | y :: l, _, 0 => by simp
  | y :: l, hok, j + 1 => by
    have hy := hok y (by simp)
    rw [List.flatMap_cons, List.drop_succ_cons, ← flatMap_drop enc w l (fun x hx => hok x (by simp [hx])) j, List.drop_append, List.drop_eq_nil_of_le (by rw [hy, Nat.add_mul]; omega), List.nil_append, hy]
    congr 1
    rw [Nat.add_mul]; omega

theorem flatMap_take {α : Type} (enc : α → List SV) (w : Nat) : ∀ (l : List α), (∀ x ∈ l, (enc x).length = w) → ∀ j, (l.flatMap enc).take (j * w) = (l.take j).flatMap enc
  | [], _, j => by simp
  | y :: l, _, 0 => by simp
  | y :: l, hok, j + 1 => by
    have hy := hok y (by simp)
    rw [List.flatMap_cons, List.take_succ_cons, List.flatMap_cons, ← flatMap_take enc w l (fun x hx => hok x (by simp [hx])) j, List.take_append, List.take_of_length_le (by rw [hy, Nat.add_mul]; omega), hy]
    congr 2
    rw [Nat.add_mul]; omega

theorem rowGet_spec {α : Type} {enc : α → List SV} {w' : Nat} {l : List α} {w j f n : Nat} {K : List SV → Prop} (hok : ∀ x ∈ l, (enc x).length = w') (h : rowGet enc w' l w j f n K) : K (((l.flatMap enc).drop (j * w + f)).take n) := by
  simp only [rowGet, forceL_eq] at h
  split at h
  · rename_i hfn
    obtain ⟨rfl, hj, hx⟩ := h
    have hg : l[j]? = some l[j] := List.getElem?_eq_getElem hj
    have := hx l[j] hg
    have he : ((l.flatMap enc).drop (j * w + f)).take n = (((enc l[j]).drop f).take n) := by
      apply List.ext_getElem?
      intro k
      rw [List.getElem?_take, List.getElem?_take]
      split
      · rw [List.getElem?_drop, List.getElem?_drop, Nat.add_assoc]
        exact flatMap_getElem? enc w l hok j (f + k) _ hg (by omega)
      · rfl
    rw [he]; exact this
  · obtain ⟨rfl, rfl, hn, hl, hk⟩ := h
    rw [Nat.add_zero, flatMap_drop enc w l hok, show n = n / w * w from hn.symm, flatMap_take enc w _ (fun x hx => hok x (List.mem_of_mem_drop hx))]
    exact hk
theorem blkGet_spec {bk : Blk} {w j f n : Nat} {K : List SV → Prop} (hok : bk.ok) (h : blkGet bk w j f n K) : bk.isFam = false ∧ K ((bk.cells.drop (j * w + f)).take n) := by
  cases bk with
  | lit cs => simp only [blkGet, forceL_eq] at h; exact ⟨rfl, h⟩
  | tab enc w' l => exact ⟨rfl, rowGet_spec hok h⟩
  | win enc w' l => exact ⟨rfl, rowGet_spec hok h⟩
  | vec z c enc w' l => exact ⟨rfl, rowGet_spec hok.1 h⟩
  | obj Q => exact h.elim
  | fam F => exact h.elim
  | wins F => exact h.elim

def ldVal (agg : Bool) (n : Nat) (r : List SV) (K : SV → Prop) : Prop :=
  if agg then r.length = n ∧ K (.agg r) else match r with | [v] => forceV v K | _ => False

def ldK (P : Program) (t : TypeId) (a : SV) (H : SH) (K : SV → Prop) : Prop :=
  match a with
  | .ptr i b w j f => match H[i]? with
    | some (b', bk) => b' = b ∧ match P.underlying t, szOf P t with
      | some _, some (n + 1) => if isAggT P t then blkGet bk w j f (n + 1) (fun r => ldVal true (n + 1) r K) else blkGet bk w j f 1 (fun r => ldVal false 1 r K)
      | _, _ => False
    | none => False
  | _ => False

theorem ldK_run {P : Program} {t : TypeId} {a : SV} {H : SH} {K : SV → Prop} {w0 : World} (hw0 : HSat w0 H) (h : ldK P t a H K) :
    ∃ v, K v ∧ ∀ w, HSat w H → (Instr.loadAt t a.den).run P w = .ok v.den w := by
  unfold ldK at h
  split at h
  case h_2 => exact h.elim
  rename_i i b wd j f
  split at h
  case h_2 => exact h.elim
  rename_i b' bk hi
  obtain ⟨rfl, h⟩ := h
  split at h
  case h_2 => exact h.elim
  rename_i d n hu hs
  have hm : (b', bk) ∈ H := List.mem_of_getElem? hi
  have hok : bk.ok := by
    cases hf : bk.isFam with
    | false => exact (hw0.blk hi hf).1
    | true => cases bk <;> first | trivial | cases hf
  by_cases hag : isAggT P t = true
  · rw [if_pos hag] at h
    have h2 := (blkGet_spec hok h).2
    simp only [ldVal, if_true] at h2
    obtain ⟨hlen, hk⟩ := h2
    refine ⟨_, hk, fun w hw => ?_⟩
    have hc : Reads w b' bk.cells := hw.reads hi
    simp only [Instr.loadAt, SV.den, Instr.sureAddr, loadVar]
    refine (bind_run' (a := (⟨b'.n, b'.o + j * wd + f, none⟩ : Addr)) (w' := w) rfl).trans ?_
    refine (bind_run' (run_isAgg hu w)).trans ?_
    rw [if_pos hag]
    refine (bind_run' (run_sizeOf hs w)).trans ?_
    have hle : j * wd + f + 0 + (n + 1) ≤ bk.cells.length := by
      rw [List.length_take, List.length_drop] at hlen
      omega
    have hld := run_loadCells (P := P) hc (n + 1) 0 #[] hle
    rw [← Nat.add_assoc] at hld
    refine (bind_run' hld).trans ?_
    simp [Sem.run, pure]
  · rw [if_neg hag] at h
    have h2 := (blkGet_spec hok h).2
    simp only [ldVal, Bool.false_eq_true, if_false, forceV_eq] at h2
    split at h2
    case h_2 => exact h2.elim
    rename_i v hv
    refine ⟨_, h2, fun w hw => ?_⟩
    have hcell : bk.cells[j * wd + f]? = some v := by
      have := congrArg (fun l => l[0]?) hv
      simpa [List.getElem?_take, List.getElem?_drop] using this
    have hc := hw.cell hi hcell
    rw [← Nat.add_assoc] at hc
    simp only [Instr.loadAt, SV.den, Instr.sureAddr, loadVar]
    refine (bind_run' (a := (⟨b'.n, b'.o + j * wd + f, none⟩ : Addr)) (w' := w) rfl).trans ?_
    refine (bind_run' (run_isAgg hu w)).trans ?_
    rw [if_neg hag]
    simp [load, Sem.run, hc]

/-! ### addresses -/
def fldK (P : Program) (s : TypeId) (x : SV) (fld : Nat) (K : SV → Prop) : Prop :=
  match P.underlying s with
  | some (.struct fs) => match fs[fld]? with
    | some fl => match szOf P fl.type with
      | some (_ + 1) => match x with
        | .ptr i b w j f => natK (f + fl.offset) fun f => K (.ptr i b w j f)
        | _ => False
      | _ => False
    | none => False
  | _ => False

theorem addr_add (b o n : Nat) : Addr.add ⟨b, o, none⟩ n = ⟨b, o + n, none⟩ := by
  unfold Addr.add; split <;> simp_all

theorem fldK_run {P : Program} {s : TypeId} {x : SV} {fld : Nat} {K : SV → Prop} (h : fldK P s x fld K) :
    ∃ v, K v ∧ ∀ w, (Instr.fieldAt s x.den fld).run P w = .ok v.den w := by
  unfold fldK at h
  simp only [natK_eq] at h
  split at h <;> try exact h.elim
  rename_i fs hu
  split at h <;> try exact h.elim
  rename_i fl hf
  split at h <;> try exact h.elim
  rename_i sz hs
  split at h <;> try exact h.elim
  rename_i i b wd j f
  refine ⟨_, h, fun w => ?_⟩
  unfold Instr.fieldAt
  refine (bind_run' (run_underlying hu w)).trans ?_
  simp only [hf, SV.den, Instr.sureAddr, fieldPlace]
  refine (bind_run' (a := (⟨b.n, b.o + j * wd + f, none⟩ : Addr)) (w' := w) rfl).trans ?_
  have : ((do if (← sizeOf fl.type) = 0 then partAt (⟨b.n, b.o + j * wd + f, none⟩ : Addr) fl.offset fl.byteOffset else pure ((⟨b.n, b.o + j * wd + f, none⟩ : Addr).add fl.offset)) : Sem Addr).run P w = .ok ⟨b.n, b.o + j * wd + (f + fl.offset), none⟩ w := by
    refine (bind_run' (run_sizeOf hs w)).trans ?_
    simp [Sem.run, pure, addr_add, Nat.add_assoc]
  exact (bind_run' this).trans rfl

def idxK (P : Program) (t : TypeId) (x ix : SV) (K : SV → Prop) : Prop :=
  match ix with
  | .int _ n => match P.underlying t, x with
    | some (.array len e), .ptr i b w j f => match szOf P e with
      | some s => (0 ≤ n ∧ n < len) ∧ if w = s then f = 0 ∧ K (.ptr i b w (j + n.toNat) 0) else natK (f + n.toNat * s) fun f => K (.ptr i b w j f)
      | none => False
    | some (.slice e), .sl i z b w j l c => match szOf P e with
      | some s => (0 ≤ n ∧ n < l) ∧ if w = s then K (.ptr i b w (j + n.toNat) 0) else False
      | none => False
    | _, _ => False
  | _ => False

theorem nilB_pos (z : Bool) {l : Nat} (c : Nat) (h : 0 < l) : nilB z l c = false := by
  unfold nilB; cases l with
  | zero => omega
  | succ l => simp

theorem idxK_run {P : Program} {t : TypeId} {x ix : SV} {K : SV → Prop} (h : idxK P t x ix K) :
    ∃ v, K v ∧ ∀ w, (Instr.indexAt t x.den ix.den).run P w = .ok v.den w := by
  unfold idxK at h
  simp only [natK_eq] at h
  split at h <;> try exact h.elim
  rename_i k n
  split at h <;> try exact h.elim
  · rename_i len e i b wd j f hu
    split at h <;> try exact h.elim
    rename_i s hs
    obtain ⟨⟨h0, h1⟩, h⟩ := h
    have key : ∀ w, (Instr.indexAt t (SV.ptr i b wd j f).den (SV.int k n).den).run P w = .ok (.pointer (some ⟨b.n, b.o + j * wd + f + n.toNat * s, none⟩)) w := fun w => by
      simp [Instr.indexAt, SV.den, Sem.run_bind, run_underlying hu, run_sizeOf hs, Instr.sureAddr, asIntOf, addr_add, h0, h1, Result.andThen]
    split at h
    · rename_i hw
      obtain ⟨rfl, h⟩ := h
      refine ⟨_, h, fun w => ?_⟩
      rw [key w]
      simp [SV.den, hw, Nat.add_mul, Nat.add_assoc]
    · refine ⟨_, h, fun w => ?_⟩
      rw [key w]
      simp [SV.den, Nat.add_assoc]
  · rename_i e i z b wd j l c hu
    split at h <;> try exact h.elim
    rename_i s hs
    obtain ⟨⟨h0, h1⟩, h⟩ := h
    split at h <;> try exact h.elim
    rename_i hw
    refine ⟨_, h, fun w => ?_⟩
    have hz : nilB z l c = false := nilB_pos z c (by omega)
    simp [hz, Instr.indexAt, SV.den, Sem.run_bind, run_underlying hu, run_sizeOf hs, Instr.sureAddr, asIntOf, addr_add, h0, h1, Result.andThen, hw, Nat.add_mul, Nat.add_assoc]

/-! ### slicing -/
def bndK (x : SV) (y : Nat) (K : Nat → Prop) : Prop :=
  match x with
  | .int _ n => (0 ≤ n ∧ n ≤ y) ∧ K n.toNat
  | _ => False

theorem bndK_run {P : Program} {x : SV} {y : Nat} {K : Nat → Prop} (h : bndK x y K) : ∃ n, K n ∧ ∀ c w, (Instr.sliceBound x.den y c).run P w = .ok n w := by
  unfold bndK at h
  split at h <;> try exact h.elim
  obtain ⟨⟨h0, h1⟩, h⟩ := h
  exact ⟨_, h, fun c w => by simp [Instr.sliceBound, SV.den, asIntOf, h0, h1]⟩

def bndsK (len cap : Nat) (lo hi mx : Option SV) (K : Nat → Nat → Nat → Prop) : Prop :=
  let k1 (m : Nat) : Prop :=
    let k2 (h : Nat) : Prop := match lo with
      | some v => bndK v h fun l => K l h m
      | none => K 0 h m
    match hi, mx with
    | some v, _ => bndK v m k2
    | none, none => k2 len
    | none, some _ => False
  match mx with
  | some v => bndK v cap k1
  | none => k1 cap

theorem bndsK_run {P : Program} {len cap : Nat} {lo hi mx : Option SV} {K : Nat → Nat → Nat → Prop} (h : bndsK len cap lo hi mx K) :
    ∃ l h m, K l h m ∧ ∀ s w, (Instr.sliceBounds s len cap (lo.map SV.den) (hi.map SV.den) (mx.map SV.den)).run P w = .ok (l, h, m) w := by
  unfold bndsK at h
  cases mx with
  | some v =>
    obtain ⟨m, h, r⟩ := bndK_run (P := P) h
    cases hi with
    | none => exact h.elim
    | some vh =>
      obtain ⟨hh, h, r2⟩ := bndK_run (P := P) h
      cases lo with
      | none => exact ⟨_, _, _, h, fun s w => by simp [Instr.sliceBounds, Sem.run_bind, r, r2, Result.andThen]⟩
      | some vl =>
        obtain ⟨l, h, r3⟩ := bndK_run (P := P) h
        exact ⟨_, _, _, h, fun s w => by simp [Instr.sliceBounds, Sem.run_bind, r, r2, r3, Result.andThen]⟩
  | none =>
    cases hi with
    | none =>
      cases lo with
      | none => exact ⟨_, _, _, h, fun s w => by simp [Instr.sliceBounds, Sem.run_bind, Result.andThen]⟩
      | some vl =>
        obtain ⟨l, h, r3⟩ := bndK_run (P := P) h
        exact ⟨_, _, _, h, fun s w => by simp [Instr.sliceBounds, Sem.run_bind, r3, Result.andThen]⟩
    | some vh =>
      obtain ⟨hh, h, r2⟩ := bndK_run (P := P) h
      cases lo with
      | none => exact ⟨_, _, _, h, fun s w => by simp [Instr.sliceBounds, Sem.run_bind, r2, Result.andThen]⟩
      | some vl =>
        obtain ⟨l, h, r3⟩ := bndK_run (P := P) h
        exact ⟨_, _, _, h, fun s w => by simp [Instr.sliceBounds, Sem.run_bind, r2, r3, Result.andThen]⟩

def sliceK (P : Program) (t : TypeId) (x : SV) (lo hi mx : Option SV) (K : SV → Prop) : Prop :=
  match P.underlying t, x with
  | some (.array n e), .ptr i b w j f => match szOf P e with
    | some s => w = s ∧ f = 0 ∧ bndsK n n lo hi mx fun l h m =>
        match lo with
        | none => K (.sl i false b w j h m)
        | some _ => K (.sl i false b w (if m = l then j else j + l) (h - l) (m - l))
    | none => False
  | some .string, .str s => mx = none ∧ bndsK s.length s.length lo hi none fun l h _ => K (.str ((s.take h).drop l))
  | some (.slice e), .sl i z b w j len c => match szOf P e with
    | some s => w = s ∧ bndsK len c lo hi mx fun l h m =>
        match lo with
        | none => K (.sl i (nilB z len c) b w j h m)
        | some _ => K (.sl i (nilB z len c) b w (if m = l then j else j + l) (h - l) (m - l))
    | none => False
  | some (.slice e), .nils => match szOf P e with
    | some s => bndsK 0 0 lo hi mx fun l h m => l = 0 ∧ h = 0 ∧ m = 0 ∧ K .nils
    | none => False
  | _, _ => False

theorem bndsK_lo {len cap : Nat} {hi mx : Option SV} {K : Nat → Nat → Nat → Prop} (h : bndsK len cap none hi mx K) : bndsK len cap none hi mx fun l h m => l = 0 ∧ K l h m := by
  have mono : ∀ {x : SV} {y : Nat} {K K' : Nat → Prop}, (∀ n, K n → K' n) → bndK x y K → bndK x y K' := fun hk h => by
    unfold bndK at *; split at h <;> first | exact h.elim | (rename_i x' _ n; exact ⟨h.1, hk _ h.2⟩)
  unfold bndsK at *
  cases mx <;> cases hi <;> simp only at h ⊢
  · exact ⟨trivial, h⟩
  · exact mono (fun n h => ⟨trivial, h⟩) h
  · exact mono (fun n h => h) h
  · exact mono (fun n h => mono (fun n h => ⟨trivial, h⟩) h) h

theorem bndK_le {x : SV} {y : Nat} {K : Nat → Prop} (h : bndK x y K) : bndK x y fun n => n ≤ y ∧ K n := by
  unfold bndK at *; split at h <;> first | exact h.elim | (rename_i x' _ n; exact ⟨h.1, by omega, h.2⟩)
theorem bndK_mono {x : SV} {y : Nat} {K K' : Nat → Prop} (hk : ∀ n, K n → K' n) (h : bndK x y K) : bndK x y K' := by
  unfold bndK at *; split at h <;> first | exact h.elim | (rename_i x' _ n; exact ⟨h.1, hk _ h.2⟩)
/-- Bounds are in order, and within the room. -/
theorem bndsK_le {len cap : Nat} {lo hi mx : Option SV} {K : Nat → Nat → Nat → Prop} (h : bndsK len cap lo hi mx K) : bndsK len cap lo hi mx fun l h m => m ≤ cap ∧ (h ≤ m ∨ h = len) ∧ l ≤ h ∧ K l h m := by
  unfold bndsK at *
  cases mx <;> cases hi <;> cases lo <;> simp only at h ⊢
  all_goals first
    | exact ⟨Nat.le_refl _, .inr rfl, Nat.zero_le _, h⟩
    | exact bndK_mono (fun n h => ⟨Nat.le_refl _, .inr trivial, h⟩) (bndK_le h)
    | exact bndK_mono (fun n h => ⟨Nat.le_refl _, .inr rfl, h⟩) (bndK_le h)
    | exact ⟨Nat.le_refl _, .inr trivial, Nat.zero_le _, h⟩
    | exact bndK_mono (fun n h => ⟨Nat.le_refl _, .inl h.1, Nat.zero_le _, h.2⟩) (bndK_le h)
    | exact bndK_mono (fun n h => bndK_mono (fun k h' => ⟨Nat.le_refl _, .inl h.1, h'⟩) (bndK_le h.2)) (bndK_le h)
    | exact h
    | exact bndK_mono (fun m h => bndK_mono (fun n h' => ⟨h.1, .inl h'.1, Nat.zero_le _, h'.2⟩) (bndK_le h.2)) (bndK_le h)
    | exact bndK_mono (fun m h => bndK_mono (fun n h' => bndK_mono (fun k h'' => ⟨h.1, .inl h'.1, h''⟩) (bndK_le h'.2)) (bndK_le h.2)) (bndK_le h)

theorem nilB_false (l c : Nat) : nilB false l c = false := rfl
theorem nilB_true {z : Bool} {l c : Nat} (h : nilB z l c = true) : z = true ∧ l = 0 ∧ c = 0 := by
  unfold nilB at h
  simp only [Bool.and_eq_true] at h
  exact ⟨h.1, Nat.eq_of_beq_eq_true h.2.1, Nat.eq_of_beq_eq_true h.2.2⟩
theorem nilB_zero : nilB true 0 0 = true := rfl

theorem sliceK_run {P : Program} {t : TypeId} {x : SV} {lo hi mx : Option SV} {K : SV → Prop} (h : sliceK P t x lo hi mx K) :
    ∃ v, K v ∧ ∀ w, (Instr.sliceAt t x.den (lo.map SV.den) (hi.map SV.den) (mx.map SV.den)).run P w = .ok v.den w := by
  unfold sliceK at h
  split at h <;> try exact h.elim
  · rename_i n e i b wd j f hu
    split at h <;> try exact h.elim
    rename_i s hs
    obtain ⟨rfl, rfl, h⟩ := h
    cases lo with
    | none =>
      obtain ⟨l, h, m, ⟨rfl, hk⟩, r⟩ := bndsK_run (P := P) (bndsK_lo h)
      refine ⟨_, hk, fun w => ?_⟩
      simp only [Option.map_none] at r
      simp [Instr.sliceAt, SV.den, nilB_false, Sem.run_bind, run_underlying hu, run_sizeOf hs, Instr.sureAddr, addr_add, r, Result.andThen]
    | some vl =>
      obtain ⟨l, h, m, hk, r⟩ := bndsK_run (P := P) h
      simp only [Option.map_some] at r
      refine ⟨_, hk, fun w => ?_⟩
      by_cases hml : m = l
      · simp [Instr.sliceAt, SV.den, nilB_false, Sem.run_bind, run_underlying hu, run_sizeOf hs, Instr.sureAddr, addr_add, r, Result.andThen, hml]
      · simp [Instr.sliceAt, SV.den, nilB_false, Sem.run_bind, run_underlying hu, run_sizeOf hs, Instr.sureAddr, addr_add, r, Result.andThen, hml, Nat.add_mul, Nat.add_assoc]
  · rename_i s hu
    obtain ⟨rfl, h⟩ := h
    obtain ⟨l, h, m, hk, r⟩ := bndsK_run (P := P) h
    refine ⟨_, hk, fun w => ?_⟩
    simp only [Option.map_none] at r
    have hsz : (ByteArray.mk s.toArray).size = s.length := by simp [ByteArray.size]
    simp only [Instr.sliceAt, SV.den, Sem.run_bind, run_underlying hu, Instr.slice, Result.andThen, Option.map_none, Option.isSome_none, Bool.false_eq_true, if_false, hsz, r, Sem.run_pure]
    congr 2
    apply ByteArray.ext
    simp [List.drop_take]
  · rename_i e i z b wd j len c hu
    split at h <;> try exact h.elim
    rename_i s hs
    obtain ⟨rfl, h⟩ := h
    cases hz : nilB z len c with
    | true =>
      obtain ⟨rfl, rfl, rfl⟩ := nilB_true hz
      cases lo with
      | none =>
        obtain ⟨l, h, m, ⟨rfl, hm, hh, hl, hk⟩, r⟩ := bndsK_run (P := P) (bndsK_lo (bndsK_le h))
        refine ⟨_, hk, fun w => ?_⟩
        simp only [Option.map_none] at r
        obtain rfl : m = 0 := by omega
        obtain rfl : h = 0 := by omega
        simp [Instr.sliceAt, Instr.slice, SV.den, hz, Sem.run_bind, run_underlying hu, run_sizeOf hs, r, Result.andThen]
      | some vl =>
        obtain ⟨l, h, m, ⟨hm, hh, hl, hk⟩, r⟩ := bndsK_run (P := P) (bndsK_le h)
        simp only [Option.map_some] at r
        refine ⟨_, hk, fun w => ?_⟩
        obtain rfl : m = 0 := by omega
        obtain rfl : h = 0 := by omega
        obtain rfl : l = 0 := by omega
        simp [Instr.sliceAt, Instr.slice, SV.den, hz, Sem.run_bind, run_underlying hu, run_sizeOf hs, r, Result.andThen]
    | false =>
      rw [hz] at h
      cases lo with
      | none =>
        obtain ⟨l, h, m, ⟨rfl, hk⟩, r⟩ := bndsK_run (P := P) (bndsK_lo h)
        refine ⟨_, hk, fun w => ?_⟩
        simp only [Option.map_none] at r
        simp [Instr.sliceAt, Instr.slice, SV.den, hz, nilB_false, Sem.run_bind, run_underlying hu, run_sizeOf hs, Instr.sureAddr, addr_add, r, Result.andThen]
      | some vl =>
        obtain ⟨l, h, m, hk, r⟩ := bndsK_run (P := P) h
        simp only [Option.map_some] at r
        refine ⟨_, hk, fun w => ?_⟩
        by_cases hml : m = l
        · simp [Instr.sliceAt, Instr.slice, SV.den, hz, nilB_false, Sem.run_bind, run_underlying hu, run_sizeOf hs, Instr.sureAddr, addr_add, r, Result.andThen, hml]
        · simp [Instr.sliceAt, Instr.slice, SV.den, hz, nilB_false, Sem.run_bind, run_underlying hu, run_sizeOf hs, Instr.sureAddr, addr_add, r, Result.andThen, hml, Nat.add_mul, Nat.add_assoc]
  · rename_i e hu
    split at h <;> try exact h.elim
    rename_i s hs
    obtain ⟨l, h, m, ⟨rfl, rfl, rfl, hk⟩, r⟩ := bndsK_run (P := P) h
    refine ⟨_, hk, fun w => ?_⟩
    simp [Instr.sliceAt, Instr.slice, SV.den, Sem.run_bind, run_underlying hu, run_sizeOf hs, r, Result.andThen]
end Go.Sy
