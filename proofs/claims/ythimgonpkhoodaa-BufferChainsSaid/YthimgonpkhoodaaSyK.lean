/- SY, part K: loops told by the slots that live on; memory told anew. Own work. -/
import Derived.Test.YthimgonpkhoodaaSyJ
namespace Go.Sy
open Go.RowKit
set_option linter.unusedVariables false
set_option linter.unusedSimpArgs false

noncomputable def look (live : List (Nat × SV)) (k : Nat) (d : SV) : SV :=
  List.rec (motive := fun _ => SV) d (fun p _ ih => match Nat.beq p.1 k with
    | true => p.2
    | false => ih) live

/-- A frame of so many slots: those that live on, and whatever lies in the others. -/
noncomputable def mkT (live : List (Nat × SV)) (J : Nat → Value) (n : Nat) : Nat → List SV :=
  Nat.rec (motive := fun _ => Nat → List SV) (fun _ => []) (fun _ ih k => look live k (.raw (J k)) :: ih (k + 1)) n

def liveOk (ts : List SV) (live : List (Nat × SV)) : Prop :=
  List.rec (motive := fun _ => Prop) True (fun p _ ih => (ts.getD p.1 (.raw undef)).den = p.2.den ∧ ih) live

theorem look_den (ts : List SV) (live : List (Nat × SV)) (h : liveOk ts live) (k : Nat) : (look live k (.raw (ts.getD k (.raw undef)).den)).den = (ts.getD k (.raw undef)).den := by
  induction live with
  | nil => rfl
  | cons p live ih =>
    obtain ⟨h1, h2⟩ := (h : _ ∧ liveOk ts live)
    show (match Nat.beq p.1 k with
      | true => p.2
      | false => look live k (.raw (ts.getD k (.raw undef)).den)).den = _
    cases hb : Nat.beq p.1 k with
    | true =>
      have : p.1 = k := Nat.eq_of_beq_eq_true hb
      subst this
      exact h1.symm
    | false => exact ih h2

theorem mkT_den (ts : List SV) (live : List (Nat × SV)) (h : liveOk ts live) : ∀ (n k : Nat), k + n = ts.length → denL (mkT live (fun k => (ts.getD k (.raw undef)).den) n k) = denL (ts.drop k)
  | 0, k, hk => by
    rw [List.drop_eq_nil_of_le (by omega)]; rfl
  | n + 1, k, hk => by
    have hlt : k < ts.length := by omega
    rw [List.drop_eq_getElem_cons hlt]
    show denL (look live k (.raw (ts.getD k (.raw undef)).den) :: mkT live (fun k => (ts.getD k (.raw undef)).den) n (k + 1)) = _
    simp only [denL]
    rw [look_den ts live h k, mkT_den ts live h n (k + 1) (by omega)]
    congr 1
    rw [List.getD_eq_getElem?_getD, List.getElem?_eq_getElem hlt]
    rfl

/-- What a round ends in: the slots that live on, and the memory, told anew. -/
def turnK (N : Nat) (Inv : Nat → List (Nat × SV) → SH → Prop) (n : Nat) (K : Exit → List SV → SH → Prop) : Exit → List SV → SH → Prop := fun e ts H => match e with
  | .normal => ∃ m live H', m < n ∧ ts.length = N ∧ liveOk ts live ∧ Tells H H' ∧ Inv m live H'
  | e => K e ts H

theorem loop_live {P : Program} (hm : P.follows .mixedOrders = true) {S : Nat → Sched} {c : Code} (hok : okCode P S c = true) {ts : List SV} {H : SH} {K : Exit → List SV → SH → Prop} (N : Nat) (Inv : Nat → List (Nat × SV) → SH → Prop)
    (h0 : ∃ n0 live H', ts.length = N ∧ liveOk ts live ∧ Tells H H' ∧ Inv n0 live H')
    (step : ∀ n live H J, Inv n live H → forceL (mkT live J N 0) fun ts => ex P S c ts H (turnK N Inv n K)) : LoopOb P c ts H K := by
  obtain ⟨n0, live, H', hlen, hlive, htel, hinv⟩ := h0
  refine LoopOb.tells htel ?_
  have hact : act ts = act (mkT live (fun k => (ts.getD k (.raw undef)).den) N 0) := by
    simp only [act, mkT_den ts live hlive N 0 (by omega), List.drop_zero]
  refine ⟨fun w hw => ?_⟩
  rw [hact]
  refine wp_loop_ghost (fun n a w' => ∃ live J H1, a = act (mkT live J N 0) ∧ HSat w' H1 ∧ Ext w H' w' H1 ∧ Inv n live H1) n0 ⟨live, _, H', rfl, hw, Ext.refl _ _, hinv⟩ ?_
  intro n a w1 ⟨live1, J1, H1, ha, h1, h2, h3⟩
  subst ha
  have hs := step n live1 H1 J1 h3
  rw [forceL_eq] at hs
  refine wp_mono (ex_wp hm (w0 := w) (H0 := H') c _ H1 _ w1 hok hs h1 h2) fun e a' w' hq => ?_
  obtain ⟨ts2, H2, rfl, k1, k2, k3⟩ := hq
  cases e with
  | normal =>
    obtain ⟨m, live2, H3, hlt, hl2, hlv2, ht2, hI⟩ := k3
    refine ⟨m, hlt, live2, (fun k => (ts2.getD k (.raw undef)).den), H3, ?_, (ht2 w' k1).1, k2.tells ht2 k1, hI⟩
    simp only [act, mkT_den ts2 live2 hlv2 N 0 (by omega), List.drop_zero]
  | _ => exact ⟨ts2, H2, rfl, k1, k2, k3⟩


/-- Memory, written out. -/
def forceH (H : SH) (k : SH → Prop) : Prop :=
  List.rec (motive := fun _ => (SH → Prop) → Prop) (fun k => k []) (fun p _ ih k => match p with
    | (b, bk) => ih fun l => k ((b, bk) :: l)) H k
theorem forceH_eq (H : SH) (k : SH → Prop) : forceH H k = k H := by
  induction H generalizing k with
  | nil => rfl
  | cons p H ih => obtain ⟨b, bk⟩ := p; show (forceH H fun l => k ((b, bk) :: l)) = _; rw [ih]

/-- What a round ends in, by a state of one's own. -/
def turnS {σ : Type} (N : Nat) (live : σ → List (Nat × SV)) (mem : σ → SH) (ok : σ → Prop) (μ : σ → Nat) (n : Nat) (K : Exit → List SV → SH → Prop) : Exit → List SV → SH → Prop := fun e ts H => match e with
  | .normal => ∃ s, μ s < n ∧ ok s ∧ ts.length = N ∧ liveOk ts (live s) ∧ Tells H (mem s)
  | e => K e ts H

/-- A loop: of each state the slots that live on, the memory, what holds, and how far it is to the end. -/
theorem loop_st {P : Program} (hm : P.follows .mixedOrders = true) {S : Nat → Sched} {c : Code} (hok : okCode P S c = true) {ts : List SV} {H : SH} {K : Exit → List SV → SH → Prop} (N : Nat) {σ : Type}
    (live : σ → List (Nat × SV)) (mem : σ → SH) (ok : σ → Prop) (μ : σ → Nat) (s0 : σ) (hN : ts.length = N) (h0 : ok s0) (hl : liveOk ts (live s0)) (ht : Tells H (mem s0))
    (step : ∀ s J, ok s → forceL (mkT (live s) J N 0) fun ts => forceH (mem s) fun H => ex P S c ts H (turnS N live mem ok μ (μ s) K)) : LoopOb P c ts H K := by
  refine LoopOb.tells ht ?_
  have hact : act ts = act (mkT (live s0) (fun k => (ts.getD k (.raw undef)).den) N 0) := by
    simp only [act, mkT_den ts (live s0) hl N 0 (by omega), List.drop_zero]
  refine ⟨fun w hw => ?_⟩
  rw [hact]
  refine wp_loop_ghost (fun n a w' => ∃ s J, n = μ s ∧ a = act (mkT (live s) J N 0) ∧ HSat w' (mem s) ∧ Ext w (mem s0) w' (mem s) ∧ ok s) (μ s0) ⟨s0, _, rfl, rfl, hw, Ext.refl _ _, h0⟩ ?_
  rintro n a w1 ⟨s, J1, rfl, rfl, h1, h2, h3⟩
  have hs := step s J1 h3
  rw [forceL_eq, forceH_eq] at hs
  refine wp_mono (ex_wp hm (w0 := w) (H0 := mem s0) c _ (mem s) _ w1 hok hs h1 h2) fun e a' w' hq => ?_
  obtain ⟨ts2, H2, rfl, k1, k2, k3⟩ := hq
  cases e with
  | normal =>
    obtain ⟨s', hlt, hok', hl2, hlv2, ht2⟩ := k3
    refine ⟨μ s', hlt, s', (fun k => (ts2.getD k (.raw undef)).den), rfl, ?_, (ht2 w' k1).1, k2.tells ht2 k1, hok'⟩
    simp only [act, mkT_den ts2 (live s') hlv2 N 0 (by omega), List.drop_zero]
  | _ => exact ⟨ts2, H2, rfl, k1, k2, k3⟩

/-- What a region ends in, by a state of one's own. -/
def regK {σ : Type} (N : Nat) (live : σ → List (Nat × SV)) (mem : σ → SH) (ok : σ → Prop) : List SV → SH → Prop := fun ts H => ∃ x, ok x ∧ ts.length = N ∧ liveOk ts (live x) ∧ Tells H (mem x)
/-- A region: what holds behind it, told anew; one walk for each order that is open. -/
theorem reg_st {P : Program} (hm : P.follows .mixedOrders = true) {id : Nat} {ops : Array Oper} {s : Sched} (hok : okSched P ops s = true) {ts : List SV} {H : SH} {K : Exit → List SV → SH → Prop} (N : Nat) {σ : Type}
    (live : σ → List (Nat × SV)) (mem : σ → SH) (ok : σ → Prop)
    (h : opsD P ops (regK N live mem ok) s.ord [] ts H)
    (step : ∀ x J, ok x → forceL (mkT (live x) J N 0) fun ts => forceH (mem x) fun H => K .normal ts H) : CodeOb P (.region id ops true) ts H K := by
  refine ⟨fun w hw => ?_⟩
  refine opsD_wp hm hok (K := regK N live mem ok) (w0 := w) (H0 := H) (fun ts2 H2 w2 h1 h2 h3 => ?_) hw (Ext.refl _ _) h
  obtain ⟨x, hx, hlen, hlive, htel⟩ := h3
  have hs := step x (fun k => (ts2.getD k (.raw undef)).den) hx
  rw [forceL_eq, forceH_eq] at hs
  refine ⟨_, mem x, ?_, (htel w2 h1).1, h2.tells htel h1, hs⟩
  simp only [act, mkT_den ts2 (live x) hlive N 0 (by omega), List.drop_zero]

/-! ### memory told anew -/
/-- An entry told anew. -/
def Retell (p q : Bs × Blk) : Prop := ∀ w, EntryAt w p → EntryAt w q ∧ (∀ k, Solid q k → Solid p k) ∧ (∀ k, Own q k → Own p k)
theorem Retell.refl (p : Bs × Blk) : Retell p p := fun _ h => ⟨h, fun _ h => h, fun _ h => h⟩
theorem Retell.trans {p q r : Bs × Blk} (a : Retell p q) (b : Retell q r) : Retell p r := fun w h => ⟨(b w (a w h).1).1, fun k hk => (a w h).2.1 k ((b w (a w h).1).2.1 k hk), fun k hk => (a w h).2.2 k ((b w (a w h).1).2.2 k hk)⟩
theorem Retell.lit {b : Bs} {cs cs' : List SV} (h : denL cs = denL cs') : Retell (b, .lit cs) (b, .lit cs') := by
  have hl : cs.length = cs'.length := by rw [← denL_length, h, denL_length]
  exact fun w ⟨_, h0, e, fz, h1, h2⟩ => ⟨⟨trivial, h0, e, fz, by rw [← h]; exact h1, by rw [← hl]; exact h2⟩, fun k hk => ⟨.inl trivial, hk.2⟩, fun k hk => hk⟩
/-- One that has nothing. -/
def Ghost (q : Bs × Blk) : Prop := (∀ w, EntryAt w q) ∧ (∀ k, ¬ Solid q k)
theorem Ghost.vec {b : Bs} {α : Type} {enc : α → List SV} {w : Nat} : Ghost (b, .vec true 0 enc w []) := by
  refine ⟨fun _ => ⟨⟨fun x hx => by simp at hx, by simp⟩, fun h => absurd ⟨rfl, rfl⟩ h⟩, fun k hk => ?_⟩
  rcases hk.1 with h | h
  · exact h ⟨rfl, rfl⟩
  · cases h.1
theorem Ghost.fam {b : Bs} : Ghost (b, .fam []) := ⟨fun _ => ⟨List.Pairwise.nil, fun a ha => by simp at ha⟩, fun k ⟨a, ha, _⟩ => by simp at ha⟩
theorem Ghost.win {b : Bs} {α : Type} {enc : α → List SV} {w : Nat} : Ghost (b, .win enc w []) := by
  refine ⟨fun _ => ⟨fun x hx => by simp at hx, fun n v hv => by simp at hv⟩, fun k hk => ?_⟩
  rcases hk.1 with h | h
  · exact h
  · exact h.2 rfl

/-- Of one block's owner another: by what it is in memory. -/
theorem Retell.of {p q : Bs × Blk} (hp : p.2.isFam = false) (hq : q.2.isFam = false) (hn : q.1.n = p.1.n) (hwn : q.2.isWin = false) (h : ∀ w, BlkAt w p → BlkAt w q ∧ (q.2.own → p.2.own)) : Retell p q := fun w hw => by
  have := h w ((entry_atom hp).1 hw)
  refine ⟨(entry_atom hq).2 this.1, fun k hk => ?_, fun k hk => ?_⟩
  · rw [solid_atom hq] at hk
    rw [solid_atom hp, ← hn]
    rcases hk.1 with h | h
    · exact ⟨.inl (this.2 h), hk.2⟩
    · rw [hwn] at h; cases h.1
  · rw [own_atom hq] at hk
    rw [own_atom hp, ← hn]
    exact ⟨this.2 hk.1, hk.2⟩

/-- A slice's rows from a place on are a slice's rows. -/
theorem Retell.drop {b : Bs} {z : Bool} {c : Nat} {α : Type} {enc : α → List SV} {w : Nat} {l : List α} (k : Nat) (hk : k ≤ l.length) :
    Retell (b, .vec z c enc w l) (⟨b.n, b.o + (if c = k then 0 else k) * w⟩, .vec (nilB z l.length c) (c - k) enc w (l.drop k)) := by
  refine Retell.of rfl rfl rfl rfl fun W h => ?_
  have hl := h.1.2
  cases hz : nilB z l.length c with
  | false =>
    have hne : ¬ (z = true ∧ c = 0) := by
      rintro ⟨rfl, rfl⟩
      rw [show l.length = 0 by omega] at hz
      cases hz
    obtain ⟨⟨hok, _⟩, hh⟩ := h
    refine ⟨⟨⟨fun x hx => hok x (List.mem_of_mem_drop hx), by simp; omega⟩, fun _ => ?_⟩, fun _ => hne⟩
    obtain ⟨pre, post, h1, h2, h3⟩ := hh hne
    by_cases hck : c = k
    · refine ⟨pre, l.flatMap enc ++ post, by simp [hck, h1], by simp [hck], ?_⟩
      rw [List.drop_eq_nil_of_le (by omega)]
      simpa using h3
    · refine ⟨pre ++ (l.take k).flatMap enc, post, ?_, ?_, ?_⟩
      · rw [List.length_append, flatMap_length enc w _ (fun x hx => hok x (List.mem_of_mem_take hx)), List.length_take, Nat.min_eq_left hk, if_neg hck]; simp [h1]
      · rw [flatMap_length enc w _ (fun x hx => hok x (List.mem_of_mem_drop hx)), List.length_drop, Nat.sub_mul, Nat.sub_mul]
        rw [flatMap_length enc w l hok] at h2
        have := Nat.mul_le_mul_right w hk
        omega
      · rw [List.append_assoc pre, ← List.flatMap_append, List.take_append_drop]
        exact h3
  | true =>
    obtain ⟨rfl, h0, rfl⟩ := nilB_true hz
    obtain rfl := List.length_eq_zero_iff.1 h0
    exact ⟨⟨⟨fun x hx => by simp at hx, by simp⟩, fun h => absurd ⟨rfl, by omega⟩ h⟩, fun h => absurd ⟨rfl, by omega⟩ h⟩
/-- .. and the first ones alone. -/
theorem Retell.take {b : Bs} {z : Bool} {c : Nat} {α : Type} {enc : α → List SV} {w : Nat} {l : List α} (k : Nat) : Retell (b, .vec z c enc w l) (b, .vec z c enc w (l.take k)) := by
  refine Retell.of rfl rfl rfl rfl fun W ⟨⟨hok, hl⟩, hh⟩ => ⟨⟨⟨fun x hx => hok x (List.mem_of_mem_take hx), by simp; omega⟩, fun hne => ?_⟩, id⟩
  obtain ⟨pre, post, h1, h2, h3⟩ := hh hne
  refine ⟨pre, (l.drop k).flatMap enc ++ post, h1, ?_, ?_⟩
  · rw [List.length_append, ← Nat.add_assoc, ← List.length_append, ← List.flatMap_append, List.take_append_drop]; exact h2
  · rw [← List.append_assoc, List.append_assoc pre, ← List.flatMap_append, List.take_append_drop]; exact h3
/-- Cells that are written out are the rows of a slice. -/
theorem Retell.lit_vec {b : Bs} {cs : List SV} {α : Type} {enc : α → List SV} {w : Nat} {l : List α} (h : denL cs = denL (l.flatMap enc)) (hok : ∀ x ∈ l, (enc x).length = w) (hb : l.length ≤ 9223372036854775807 := by simp) : Retell (b, .lit cs) (b, .vec false l.length enc w l) := by
  refine Retell.of rfl rfl rfl rfl fun W ⟨_, h0, e, fz, h1, h2⟩ => ⟨⟨⟨hok, Nat.le_refl _, hb⟩, fun _ => ⟨[], [], h0.symm, ?_, e, fz, ?_, ?_⟩⟩, fun _ => trivial⟩
  · rw [flatMap_length enc w l hok]; simp
  · simpa [← h] using h1
  · have : cs.length = (l.flatMap enc).length := by rw [← denL_length, h, denL_length]
    simpa [← this] using h2
/-- Rows encoded in another way. -/
theorem Retell.map {b : Bs} {z : Bool} {c : Nat} {α β : Type} {enc : α → List SV} {enc' : β → List SV} {w : Nat} {l : List α} {l' : List β} (h : denL (l.flatMap enc) = denL (l'.flatMap enc')) (hl : l'.length = l.length) (hok : ∀ x ∈ l', (enc' x).length = w) :
    Retell (b, .vec z c enc w l) (b, .vec z c enc' w l') := by
  have hlen : (l.flatMap enc).length = (l'.flatMap enc').length := by rw [← denL_length, h, denL_length]
  refine Retell.of rfl rfl rfl rfl fun W ⟨⟨_, hc⟩, hh⟩ => ⟨⟨⟨hok, by omega⟩, fun hne => ?_⟩, id⟩
  obtain ⟨pre, post, h1, h2, e, fz, h3, h4⟩ := hh hne
  exact ⟨pre, post, h1, by rw [← hlen]; exact h2, e, fz, by simpa [denL_append, h] using h3, by simpa [hlen] using h4⟩

/-- Entries picked out, told anew; and ones that have nothing. -/
def tellK (H : SH) (σ : List (Option Nat)) (H' : SH) : Prop :=
  List.rec (motive := fun _ => SH → Prop) (fun l => l = []) (fun s _ ih l => match l with
    | [] => False
    | q :: l => (match s with
      | none => Ghost q
      | some s => match H[s]? with
        | some p => Retell p q
        | none => False) ∧ ih l) σ H'
theorem tellK_spec {H : SH} : ∀ (σ : List (Option Nat)) (H' : SH), tellK H σ H' → ∀ (j : Nat) (q : Bs × Blk), H'[j]? = some q → (σ[j]? = some none ∧ Ghost q) ∨ ∃ s p, σ[j]? = some (some s) ∧ H[s]? = some p ∧ Retell p q
  | [], H', h, j, q, hj => by
    have : H' = [] := h
    subst this
    simp at hj
  | s :: σ, [], h, j, q, hj => by simp at hj
  | s :: σ, q0 :: H', h, j, q, hj => by
    obtain ⟨h1, h2⟩ := (h : _ ∧ tellK H σ H')
    cases j with
    | zero =>
      simp at hj
      subst hj
      cases s with
      | none => exact .inl ⟨rfl, h1⟩
      | some s =>
        simp only at h1
        split at h1
        · rename_i p hp; exact .inr ⟨s, p, rfl, hp, h1⟩
        · exact h1.elim
    | succ j => simpa using tellK_spec σ H' h2 j q (by simpa using hj)

theorem filterMap_nodup {σ : List (Option Nat)} (h : (σ.filterMap id).Nodup) : ∀ (i j s : Nat), σ[i]? = some (some s) → σ[j]? = some (some s) → i = j := by
  induction σ with
  | nil => intro i j s hi; simp at hi
  | cons a σ ih =>
    intro i j s hi hj
    cases a with
    | none =>
      simp only [List.filterMap_cons, id] at h
      cases i with
      | zero => simp at hi
      | succ i => cases j with
        | zero => simp at hj
        | succ j => rw [ih h i j s (by simpa using hi) (by simpa using hj)]
    | some a =>
      simp only [List.filterMap_cons, id, List.nodup_cons] at h
      have mem : ∀ k, σ[k]? = some (some a) → False := fun k hk => h.1 (List.mem_filterMap.2 ⟨some a, List.mem_of_getElem? hk, rfl⟩)
      cases i with
      | zero =>
        simp at hi; subst hi
        cases j with
        | zero => rfl
        | succ j => exact (mem j (by simpa using hj)).elim
      | succ i => cases j with
        | zero => simp at hj; subst hj; exact (mem i (by simpa using hi)).elim
        | succ j => rw [ih h.2 i j s (by simpa using hi) (by simpa using hj)]

theorem Tells.pick {H H' : SH} (σ : List (Option Nat)) (hσ : (σ.filterMap id).Nodup) (h : tellK H σ H') : Tells H H' := by
  intro w hw
  have hs := tellK_spec σ H' h
  refine ⟨⟨fun i j p q hij hi hj => ?_, fun q hq => ?_⟩, fun k ⟨q, hq, ho⟩ => ?_⟩
  · rcases hs i p hi with ⟨_, g⟩ | ⟨s, p0, hsi, hp0, r⟩
    · exact fun k => ⟨fun ⟨a, _⟩ => g.2 k a, fun ⟨a, _⟩ => g.2 k a.solid⟩
    rcases hs j q hj with ⟨_, g⟩ | ⟨s', q0, hsj, hq0, r'⟩
    · exact fun k => ⟨fun ⟨_, a⟩ => g.2 k a.solid, fun ⟨_, a⟩ => g.2 k a⟩
    have hne : s ≠ s' := by
      rintro rfl
      exact hij (filterMap_nodup hσ i j s hsi hsj)
    have hsep := hw.sep s s' p0 q0 hne hp0 hq0
    have r := r w (hw.at_ _ (List.mem_of_getElem? hp0))
    have r' := r' w (hw.at_ _ (List.mem_of_getElem? hq0))
    exact fun k => ⟨fun ⟨a, b⟩ => (hsep k).1 ⟨r.2.1 k a, r'.2.2 k b⟩, fun ⟨a, b⟩ => (hsep k).2 ⟨r.2.2 k a, r'.2.1 k b⟩⟩
  · obtain ⟨j, hj⟩ := List.mem_iff_getElem?.1 hq
    rcases hs j q hj with ⟨_, g⟩ | ⟨s, p0, _, hp0, r⟩
    · exact g.1 w
    · exact (r w (hw.at_ _ (List.mem_of_getElem? hp0))).1
  · obtain ⟨j, hj⟩ := List.mem_iff_getElem?.1 hq
    rcases hs j q hj with ⟨_, g⟩ | ⟨s, p0, _, hp0, r⟩
    · exact absurd ho.solid (g.2 k)
    · exact ⟨p0, List.mem_of_getElem? hp0, (r w (hw.at_ _ (List.mem_of_getElem? hp0))).2.2 k ho⟩

/-- From symbolic memory that holds nothing but windows: nothing that was there has turned. -/
theorem Ext.below {w w' : World} {H H' : SH} (h : Ext w H w' H') (hn : ∀ k, ¬ Wr H k) : RowKit.Below w.heap.size w w' := ⟨h.os, h.tape, h.output, h.size, fun k hk => h.block k hk (hn k)⟩

/-- A slice's room is at least its length. -/
theorem HSat.room {w : World} {H : SH} (h : HSat w H) {i : Nat} {b : Bs} {z : Bool} {c : Nat} {α : Type} {enc : α → List SV} {wd : Nat} {l : List α} (hi : H[i]? = some (b, .vec z c enc wd l)) : l.length ≤ c := (h.blk hi rfl).1.2.1
theorem HSat.roomB {w : World} {H : SH} (h : HSat w H) {i : Nat} {b : Bs} {z : Bool} {c : Nat} {α : Type} {enc : α → List SV} {wd : Nat} {l : List α} (hi : H[i]? = some (b, .vec z c enc wd l)) : c ≤ 9223372036854775807 := (h.blk hi rfl).1.2.2
end Go.Sy
