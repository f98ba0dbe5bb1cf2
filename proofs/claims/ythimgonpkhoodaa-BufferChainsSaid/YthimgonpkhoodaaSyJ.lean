/- SY, part J: a contract over a few blocks serves where more lie, and it may make new ones. Own work. -/
import Derived.Test.YthimgonpkhoodaaSyI
namespace Go.Sy
open Go.RowKit
set_option linter.unusedVariables false
set_option linter.unusedSimpArgs false

/-- Places turned: those of the blocks that were handed on; behind them the new ones, at the end of so many. -/
def rnI (σ : List Nat) (n i : Nat) : Nat := σ.getD i (n + (i - σ.length))
def rn1 (σ : List Nat) (n : Nat) : SV → SV
  | .ptr i b w j f => .ptr (rnI σ n i) b w j f
  | .sl i z b w j l c => .sl (rnI σ n i) z b w j l c
  | .mp i b => .mp (rnI σ n i) b
  | v => v
def rn (σ : List Nat) (n : Nat) : SV → SV
  | .agg cs => .agg (cs.map (rn1 σ n))
  | .tup vs => .tup (vs.map (rn1 σ n))
  | v => rn1 σ n v
def rnB (σ : List Nat) (n : Nat) : Blk → Blk
  | .lit cs => .lit (cs.map (rn1 σ n))
  | b => b
def rnP (σ : List Nat) (n : Nat) (p : Bs × Blk) : Bs × Blk := (p.1, rnB σ n p.2)

theorem rn1_den (σ : List Nat) (n : Nat) (v : SV) : (rn1 σ n v).den = v.den := by cases v <;> rfl
theorem denL_rn1 (σ : List Nat) (n : Nat) (l : List SV) : denL (l.map (rn1 σ n)) = denL l := by
  rw [denL_eq, denL_eq, List.map_map]
  congr 1
  funext v
  exact rn1_den σ n v
theorem rn_den (σ : List Nat) (n : Nat) (v : SV) : (rn σ n v).den = v.den := by
  cases v <;> simp only [rn, SV.den, denL_rn1] <;> exact rn1_den σ n _
theorem denL_rn (σ : List Nat) (n : Nat) (l : List SV) : denL (l.map (rn σ n)) = denL l := by
  rw [denL_eq, denL_eq, List.map_map]
  congr 1
  funext v
  exact rn_den σ n v

theorem own_rn {σ : List Nat} {n : Nat} {p : Bs × Blk} {k : Nat} : Own (rnP σ n p) k ↔ Own p k := by
  obtain ⟨b, bk⟩ := p; cases bk <;> exact Iff.rfl
theorem solid_rn {σ : List Nat} {n : Nat} {p : Bs × Blk} {k : Nat} : Solid (rnP σ n p) k ↔ Solid p k := by
  obtain ⟨b, bk⟩ := p
  cases bk <;> first
    | exact Iff.rfl
    | (show (solid _ ∧ _) ↔ (solid _ ∧ _)
       simp only [rnP, rnB, solid, Blk.own, Blk.isWin]; simp)
theorem entry_rn {w : World} {σ : List Nat} {n : Nat} {p : Bs × Blk} : EntryAt w (rnP σ n p) ↔ EntryAt w p := by
  obtain ⟨b, bk⟩ := p
  cases bk <;> first
    | exact Iff.rfl
    | (show BlkAt w _ ↔ BlkAt w _
       simp only [BlkAt, rnP, rnB, Holds, Blk.ok, CellsAt, denL_rn1, List.length_map])
theorem apart_rn {σ : List Nat} {n : Nat} {p q : Bs × Blk} : ApartE (rnP σ n p) (rnP σ n q) ↔ ApartE p q := by
  unfold ApartE
  simp only [own_rn, solid_rn]
theorem win_rn {σ : List Nat} {n : Nat} {p : Bs × Blk} : (rnP σ n p).2.isWin = p.2.isWin := by
  obtain ⟨b, bk⟩ := p; cases bk <;> rfl

def putAll : SH → List Nat → SH → SH
  | H, s :: σ, p :: l => match p.2 with
    | .win .. => putAll H σ l
    | .wins _ => putAll H σ l
    | _ => putAll (H.set s p) σ l
  | H, _, _ => H
def putAllK (σ0 : List Nat) (n : Nat) (σ : List Nat) (l : SH) (H : SH) (k : SH → Prop) : Prop :=
  List.rec (motive := fun _ => SH → SH → Prop) (fun _ H => k H) (fun s _ ih l H => match l with
    | [] => k H
    | p :: l => match p.2 with
      | .win .. => ih l H
      | .wins _ => ih l H
      | _ => setHK H s (rnP σ0 n p) fun H => ih l H) σ l H
theorem putAllK_eq (σ0 : List Nat) (n : Nat) (σ : List Nat) (l H : SH) (k : SH → Prop) : putAllK σ0 n σ l H k = k (putAll H σ (l.map (rnP σ0 n))) := by
  induction σ generalizing l H with
  | nil => cases l <;> rfl
  | cons s σ ih =>
    cases l with
    | nil => rfl
    | cons p l =>
      obtain ⟨b, bk⟩ := p
      cases bk with
      | win enc w L => show putAllK σ0 n σ l H k = _; rw [ih]; rfl
      | wins F => show putAllK σ0 n σ l H k = _; rw [ih]; rfl
      | _ => show (setHK H s (rnP σ0 n _) fun H => putAllK σ0 n σ l H k) = _; rw [setHK_eq, ih]; rfl

theorem putAll_get : ∀ (σ : List Nat) (l H : SH) (j : Nat) (q : Bs × Blk), (putAll H σ l)[j]? = some q →
    (∃ k : Nat, σ[k]? = some j ∧ l[k]? = some q ∧ q.2.isWin = false) ∨ (H[j]? = some q ∧ ∀ k : Nat, σ[k]? = some j → ∀ p, l[k]? = some p → p.2.isWin = true)
  | [], l, H, j, q, h => by cases l <;> exact .inr ⟨h, fun k hk => by simp at hk⟩
  | s :: σ, [], H, j, q, h => .inr ⟨h, fun k _ p hp => by simp at hp⟩
  | s :: σ, p :: l, H, j, q, h => by
    have step : ∀ H', (putAll H' σ l)[j]? = some q → (p.2.isWin = true → H' = H) → (p.2.isWin = false → H' = H.set s p) →
        (∃ k : Nat, (s :: σ)[k]? = some j ∧ (p :: l)[k]? = some q ∧ q.2.isWin = false) ∨ (H[j]? = some q ∧ ∀ k : Nat, (s :: σ)[k]? = some j → ∀ p', (p :: l)[k]? = some p' → p'.2.isWin = true) := by
      intro H' h' e1 e2
      rcases putAll_get σ l H' j q h' with ⟨k, h1, h2, h3⟩ | ⟨h1, h2⟩
      · exact .inl ⟨k + 1, by simpa using h1, by simpa using h2, h3⟩
      · cases hw : p.2.isWin with
        | true =>
          rw [e1 hw] at h1
          refine .inr ⟨h1, fun k hk p' hp' => ?_⟩
          cases k with
          | zero => simp at hp'; subst hp'; exact hw
          | succ k => exact h2 k (by simpa using hk) p' (by simpa using hp')
        | false =>
          rw [e2 hw, List.getElem?_set] at h1
          split at h1
          · rename_i hs
            split at h1
            · obtain rfl := Option.some.inj h1
              exact .inl ⟨0, by simp [hs], by simp, hw⟩
            · cases h1
          · rename_i hs
            refine .inr ⟨h1, fun k hk p' hp' => ?_⟩
            cases k with
            | zero => simp at hk; exact absurd hk hs
            | succ k => exact h2 k (by simpa using hk) p' (by simpa using hp')
    obtain ⟨b, bk⟩ := p
    cases bk with
    | win enc w L => exact step H h (fun _ => rfl) (fun h => by cases h)
    | wins F => exact step H h (fun _ => rfl) (fun h => by cases h)
    | _ => exact step _ h (fun h => by cases h) (fun _ => rfl)

/-- What a contract must leave as it is: a window. -/
def keepK (H0 H0' : SH) : Prop :=
  List.rec (motive := fun _ => SH → Prop) (fun l => l = []) (fun p _ ih l => match l with
    | [] => False
    | q :: l => (match p.2 with
      | .win .. => q = p
      | .wins _ => q = p
      | _ => q.2.isWin = false) ∧ ih l) H0 H0'

theorem keepK_spec : ∀ (H0 H0' : SH), keepK H0 H0' → H0'.length = H0.length ∧ ∀ (k : Nat) (p q : Bs × Blk), H0[k]? = some p → H0'[k]? = some q → q = p ∨ q.2.isWin = false
  | [], H0', h => by
    have : H0' = [] := h
    subst this
    exact ⟨rfl, fun k p q hk => by simp at hk⟩
  | p :: H0, [], h => False.elim h
  | p :: H0, q :: H0', h => by
    obtain ⟨h1, h2⟩ := (h : _ ∧ keepK H0 H0')
    obtain ⟨h3, h4⟩ := keepK_spec H0 H0' h2
    refine ⟨by simp [h3], fun k p' q' hp hq => ?_⟩
    cases k with
    | zero =>
      simp at hp hq
      subst hp; subst hq
      split at h1
      all_goals first | exact .inl h1 | exact .inr h1
    | succ k => exact h4 k p' q' (by simpa using hp) (by simpa using hq)

/-- The blocks that were there, and the new ones. -/
def growK (H0 H0' : SH) (k : SH → SH → Prop) : Prop :=
  List.rec (motive := fun _ => SH → (SH → SH → Prop) → Prop) (fun l k => k [] l) (fun p _ ih l k => match l with
    | [] => False
    | q :: l => (match p.2 with
      | .win .. => q = p
      | .wins _ => q = p
      | _ => q.2.isWin = false) ∧ ih l fun olds news => k (q :: olds) news) H0 H0' k

theorem growK_spec : ∀ (H0 H0' : SH) (k : SH → SH → Prop), growK H0 H0' k → ∃ olds news, H0' = olds ++ news ∧ keepK H0 olds ∧ k olds news
  | [], H0', k, h => ⟨[], H0', rfl, rfl, h⟩
  | p :: H0, [], k, h => False.elim h
  | p :: H0, q :: H0', k, h => by
    obtain ⟨h1, h2⟩ := (h : _ ∧ growK H0 H0' fun olds news => k (q :: olds) news)
    obtain ⟨olds, news, rfl, h4, h5⟩ := growK_spec H0 H0' _ h2
    exact ⟨q :: olds, news, rfl, ⟨h1, h4⟩, h5⟩

def newsK (σ : List Nat) (n : Nat) (news : SH) (k : SH → Prop) : Prop :=
  List.rec (motive := fun _ => (SH → Prop) → Prop) (fun k => k []) (fun p _ ih k => p.2.isWin = false ∧ ih fun l => k (rnP σ n p :: l)) news k
theorem newsK_spec (σ : List Nat) (n : Nat) : ∀ (news : SH) (k : SH → Prop), newsK σ n news k → (∀ p ∈ news, p.2.isWin = false) ∧ k (news.map (rnP σ n))
  | [], k, h => ⟨by simp, h⟩
  | p :: news, k, h => by
    obtain ⟨h1, h2⟩ := (h : _ ∧ newsK σ n news fun l => k (rnP σ n p :: l))
    obtain ⟨h3, h4⟩ := newsK_spec σ n news _ h2
    exact ⟨fun q hq => by rcases List.mem_cons.1 hq with rfl | hq; exact h1; exact h3 q hq, h4⟩

def appHK (H J : SH) (k : SH → Prop) : Prop :=
  List.rec (motive := fun _ => (SH → Prop) → Prop) (fun k => k J) (fun p _ ih k => ih fun l => k (p :: l)) H k
theorem appHK_eq (H J : SH) (k : SH → Prop) : appHK H J k = k (H ++ J) := by
  induction H generalizing k with
  | nil => rfl
  | cons p H ih => show (appHK H J fun l => k (p :: l)) = _; rw [ih]; rfl

theorem solid_own {p : Bs × Blk} {k : Nat} (h : Solid p k) (hw : p.2.isWin = false) : Own p k ∨ ∃ F, p.2 = .fam F := by
  obtain ⟨b, bk⟩ := p
  cases bk with
  | win => cases hw
  | wins => cases hw
  | fam F => exact .inr ⟨_, rfl⟩
  | _ =>
    rcases h.1 with h1 | h1
    · exact .inl ⟨h1, h.2⟩
    · cases h1.1
theorem solid_own_at {w : World} {p : Bs × Blk} {k : Nat} (hat : EntryAt w p) (h : Solid p k) (hw : p.2.isWin = false) : Own p k := by
  rcases solid_own h hw with h | ⟨F, hF⟩
  · exact h
  · obtain ⟨b, bk⟩ := p
    simp only at hF
    subst hF
    obtain ⟨a, ha, h1, h2⟩ := h
    rcases h1 with h1 | h1
    · exact ⟨a, ha, h1, h2⟩
    · have := (hat.2 a ha).2
      rw [this] at h1; cases h1.1

/-- A window into what one has. -/
def Lends (p q : Bs × Blk) : Prop := q.2.isWin = true ∧ ∀ w, EntryAt w p → EntryAt w q ∧ ∀ k, Solid q k → Own p k

/-- The blocks that are handed on: as they are here, or windows into them. -/
def handK (σ0 : List Nat) (n : Nat) (H : SH) (σ : List Nat) (H0 : SH) : Prop :=
  List.rec (motive := fun _ => SH → Prop) (fun l => l = []) (fun s _ ih l => match l with
    | [] => False
    | p0 :: l => (match H[s]? with
      | some p => p = rnP σ0 n p0 ∨ Lends p p0
      | none => False) ∧ ih l) σ H0
theorem handK_spec {σ0 : List Nat} {n : Nat} {H : SH} : ∀ (σ : List Nat) (H0 : SH), handK σ0 n H σ H0 → σ.length = H0.length ∧ ∀ (k s : Nat) (p0 : Bs × Blk), σ[k]? = some s → H0[k]? = some p0 → ∃ p, H[s]? = some p ∧ (p = rnP σ0 n p0 ∨ Lends p p0)
  | [], H0, h => by
    have : H0 = [] := h
    subst this
    exact ⟨rfl, fun k s p0 hk => by simp at hk⟩
  | s :: σ, [], h => False.elim h
  | s :: σ, p0 :: H0, h => by
    obtain ⟨h1, h2⟩ := (h : _ ∧ handK σ0 n H σ H0)
    obtain ⟨h3, h4⟩ := handK_spec σ H0 h2
    refine ⟨by simp [h3], fun k s' p0' hs hp => ?_⟩
    cases k with
    | zero =>
      simp at hs hp
      subst hs; subst hp
      split at h1
      · rename_i p hp; exact ⟨p, hp, h1⟩
      · exact h1.elim
    | succ k => exact h4 k s' p0' (by simpa using hs) (by simpa using hp)

/-- The call of a function by its contract: 'σ': where the blocks that it speaks of lie here. -/
theorem FnOb.callL {P : Program} {f : FuncId} (σ : List Nat) {args0 args : List SV} {H0 H : SH} {K : SV → SH → Prop}
    (h : FnOb P f args0 H0 fun r H0' => growK H0 H0' fun olds news => newsK σ H.length news fun news => forceV (rn σ H.length r) fun r => putAllK σ H.length σ olds H fun H => appHK H news (K r))
    (hσ : σ.Nodup) (hat : handK σ H.length H σ H0) (hargs : args = args0.map (rn σ H.length)) : FnOb P f args H K := by
  refine ⟨fun w hw => ?_⟩
  obtain ⟨hlen, hget⟩ := handK_spec _ _ hat
  have hmem : ∀ (k : Nat) (p0 : Bs × Blk), H0[k]? = some p0 → ∃ s p, σ[k]? = some s ∧ H[s]? = some p ∧ EntryAt w p0 ∧ (∀ j, Solid p0 j → Solid p j) ∧ (∀ j, Own p0 j → Own p j) := by
    intro k p0 h2
    have hk : k < σ.length := by rw [hlen]; exact (List.getElem?_eq_some_iff.1 h2).1
    obtain ⟨p, hp, hc⟩ := hget k _ p0 (List.getElem?_eq_getElem hk) h2
    have hat := hw.at_ _ (List.mem_of_getElem? hp)
    refine ⟨σ[k], p, List.getElem?_eq_getElem hk, hp, ?_⟩
    rcases hc with rfl | ⟨hwin, hl⟩
    · exact ⟨entry_rn.1 hat, fun j hj => solid_rn.2 hj, fun j hj => own_rn.2 hj⟩
    · refine ⟨(hl w hat).1, fun j hj => ((hl w hat).2 j hj).solid, fun j hj => ?_⟩
      obtain ⟨b, bk⟩ := p0
      cases bk <;> first | exact hj.1.elim | exact False.elim hj | cases hwin
  have hinj : ∀ (i j s : Nat), σ[i]? = some s → σ[j]? = some s → i = j := by
    intro i j s hi hj
    have h1 := (List.getElem?_eq_some_iff.1 hi)
    have h2 := (List.getElem?_eq_some_iff.1 hj)
    exact nodup_inj hσ h1.1 h2.1 (h1.2.trans h2.2.symm)
  have hw0 : HSat w H0 := by
    constructor
    · intro i j p q hij hi hj
      obtain ⟨si, pi, hsi, hHi, _, a1, a2⟩ := hmem i p hi
      obtain ⟨sj, pj, hsj, hHj, _, b1, b2⟩ := hmem j q hj
      have hne : si ≠ sj := fun e => hij (hinj i j si hsi (e ▸ hsj))
      have := hw.sep si sj _ _ hne hHi hHj
      exact fun k => ⟨fun ⟨x, y⟩ => (this k).1 ⟨a1 k x, b2 k y⟩, fun ⟨x, y⟩ => (this k).2 ⟨a2 k x, b1 k y⟩⟩
    · intro p hp
      obtain ⟨k, hk⟩ := List.mem_iff_getElem?.1 hp
      obtain ⟨_, _, _, _, h, _⟩ := hmem k p hk
      exact h
  rw [hargs, denL_rn]
  refine (h.run w hw0).mono fun e w' ⟨r, H0', he, h1, h2, h3⟩ => ?_
  obtain ⟨olds, news, rfl, h3, h4⟩ := growK_spec _ _ _ h3
  obtain ⟨hnw, h4⟩ := newsK_spec _ _ _ _ h4
  rw [forceV_eq, putAllK_eq, appHK_eq] at h4
  obtain ⟨hl0, hkeep⟩ := keepK_spec _ _ h3
  have hO : ∀ (k : Nat) (q : Bs × Blk), olds[k]? = some q → (olds ++ news)[k]? = some q := fun k q h => by
    rw [List.getElem?_append_left (List.getElem?_eq_some_iff.1 h).1]; exact h
  have hN : ∀ (k : Nat) (q : Bs × Blk), news[k]? = some q → (olds ++ news)[olds.length + k]? = some q := fun k q h => by
    rw [List.getElem?_append_right (by omega), Nat.add_sub_cancel_left]; exact h
  have hsub : ∀ k, Wr H0 k → Wr H k := by
    intro k ⟨p, hp, ho⟩
    obtain ⟨n, hn⟩ := List.mem_iff_getElem?.1 hp
    obtain ⟨s, p', _, hs, _, _, a⟩ := hmem n p hn
    exact ⟨_, List.mem_of_getElem? hs, a k ho⟩
  -- an entry that stays
  have hstay : ∀ (j : Nat) (q : Bs × Blk), H[j]? = some q → (∀ k : Nat, σ[k]? = some j → ∀ p, olds[k]? = some p → p.2.isWin = true) → ∀ k, Wr H0 k → ¬ Solid q k := by
    intro j q hj hno k ⟨p0, hp0, ho⟩ hs
    obtain ⟨n, hn⟩ := List.mem_iff_getElem?.1 hp0
    obtain ⟨s, p, hsn, hHs, _, _, a⟩ := hmem n p0 hn
    have hne : s ≠ j := by
      rintro rfl
      have hn' : n < olds.length := by rw [hl0]; exact (List.getElem?_eq_some_iff.1 hn).1
      have hwn := hno n hsn olds[n] (List.getElem?_eq_getElem hn')
      rcases hkeep n p0 olds[n] hn (List.getElem?_eq_getElem hn') with e | e
      · rw [e] at hwn
        obtain ⟨b, bk⟩ := p0
        cases bk <;> first | exact ho.1.elim | exact False.elim ho | cases hwn
      · rw [e] at hwn; cases hwn
    exact (hw.sep s j p q hne hHs hj k).2 ⟨a k ho, hs⟩
  have hmid : ∀ (j : Nat) (q : Bs × Blk), H[j]? = some q → (∀ k : Nat, σ[k]? = some j → ∀ p, olds[k]? = some p → p.2.isWin = true) → ∀ (m : Nat) (q0 : Bs × Blk), (olds ++ news)[m]? = some q0 → q0.2.isWin = false → ApartE q0 q := by
    intro j q hj hno m q0 hm hwn k
    have ho : Own q0 k → ¬ Solid q k := fun ho hs => by
      rcases h2.sub k ⟨q0, List.mem_of_getElem? hm, ho⟩ with h | h
      · exact hstay j q hj hno k h hs
      · have := hw.lt (List.mem_of_getElem? hj) hs; omega
    have hs : Solid q0 k → Own q0 k := fun hs => solid_own_at (h1.at_ q0 (List.mem_of_getElem? hm)) hs hwn
    exact ⟨fun ⟨a, b⟩ => ho (hs a) b.solid, fun ⟨a, b⟩ => ho a b⟩
  -- what an entry of the whole is
  have hwas : ∀ (j : Nat) (q : Bs × Blk), (putAll H σ (olds.map (rnP σ H.length)) ++ news.map (rnP σ H.length))[j]? = some q →
      (∃ (m : Nat) (q0 : Bs × Blk), (olds ++ news)[m]? = some q0 ∧ q = rnP σ H.length q0 ∧ q0.2.isWin = false ∧ ((σ[m]? = some j ∧ j < (putAll H σ (olds.map (rnP σ H.length))).length) ∨ ((putAll H σ (olds.map (rnP σ H.length))).length ≤ j ∧ m = olds.length + (j - (putAll H σ (olds.map (rnP σ H.length))).length)))) ∨
      (H[j]? = some q ∧ ∀ k : Nat, σ[k]? = some j → ∀ p, olds[k]? = some p → p.2.isWin = true) := by
    intro j q hq
    rw [List.getElem?_append] at hq
    split at hq
    · rename_i hjl
      rcases putAll_get σ _ H j q hq with ⟨k, h1, h2, h3⟩ | ⟨h1, h2⟩
      · rw [List.getElem?_map] at h2
        cases hq0 : olds[k]? with
        | none => rw [hq0] at h2; cases h2
        | some q0 =>
          rw [hq0] at h2
          obtain rfl := (Option.some.inj h2).symm
          exact .inl ⟨k, q0, hO _ _ hq0, rfl, by rw [win_rn] at h3; exact h3, .inl ⟨h1, hjl⟩⟩
      · refine .inr ⟨h1, fun k hk p hp => ?_⟩
        have := h2 k hk (rnP σ H.length p) (by rw [List.getElem?_map, hp]; rfl)
        rw [win_rn] at this; exact this
    · rw [List.getElem?_map] at hq
      cases hq0 : news[j - (putAll H σ (olds.map (rnP σ H.length))).length]? with
      | none => rw [hq0] at hq; cases hq
      | some q0 => rw [hq0] at hq; exact .inl ⟨_, q0, hN _ _ hq0, (Option.some.inj hq).symm, hnw q0 (List.mem_of_getElem? hq0), .inr ⟨by omega, rfl⟩⟩
  refine ⟨rn σ H.length r, _, by rw [rn_den]; exact he, ⟨fun i j p q hij hi hj => ?_, fun p hp => ?_⟩, ⟨h2.os, h2.tape, h2.output, h2.size, fun k hk hn => h2.block k hk (fun hh => hn (hsub k hh)), fun k hk => ?_⟩, h4⟩
  · rcases hwas i p hi with ⟨m, p0, hm, rfl, hpw, hmi⟩ | ⟨hi', hino⟩ <;> rcases hwas j q hj with ⟨m', q0, hm', rfl, hqw, hmj⟩ | ⟨hj', hjno⟩
    · refine apart_rn.2 (h1.sep m m' p0 q0 (fun e => ?_) hm hm')
      subst e
      rcases hmi with ⟨a1, a2⟩ | ⟨a1, a2⟩ <;> rcases hmj with ⟨b1, b2⟩ | ⟨b1, b2⟩
      · rw [a1] at b1; exact hij (Option.some.inj b1)
      · have := (List.getElem?_eq_some_iff.1 a1).1; omega
      · have := (List.getElem?_eq_some_iff.1 b1).1; omega
      · omega
    · intro k
      have := hmid j q hj' hjno m p0 hm hpw k
      rw [own_rn, solid_rn]
      exact this
    · refine ApartE.symm fun k => ?_
      have := hmid i p hi' hino m' q0 hm' hqw k
      rw [own_rn, solid_rn]
      exact this
    · exact hw.sep i j p q hij hi' hj'
  · obtain ⟨j, hj⟩ := List.mem_iff_getElem?.1 hp
    rcases hwas j p hj with ⟨m, q0, hm, rfl, _⟩ | ⟨hpj, hno⟩
    · exact entry_rn.2 (h1.at_ q0 (List.mem_of_getElem? hm))
    · exact (hw.at_ p (List.mem_of_getElem? hpj)).keep fun k hk => h2.block k (hw.lt (List.mem_of_getElem? hpj) hk) fun hwr => hstay j p hpj hno k hwr hk
  · obtain ⟨p, hp, ho⟩ := hk
    obtain ⟨j, hj⟩ := List.mem_iff_getElem?.1 hp
    rcases hwas j p hj with ⟨m, q0, hm, rfl, _⟩ | ⟨hpj, hno⟩
    · rcases h2.sub k ⟨q0, List.mem_of_getElem? hm, own_rn.1 ho⟩ with h | h
      · exact .inl (hsub k h)
      · exact .inr h
    · exact .inl ⟨p, List.mem_of_getElem? hpj, ho⟩

theorem handK_of {σ0 : List Nat} {n : Nat} {H : SH} : ∀ (σ : List Nat) (H0 : SH), σ.map (fun i => H[i]?) = H0.map (fun p => some (rnP σ0 n p)) → handK σ0 n H σ H0
  | [], [], _ => rfl
  | [], _ :: _, h => by simp at h
  | _ :: _, [], h => by simp at h
  | s :: σ, p :: H0, h => by
    simp only [List.map_cons, List.cons.injEq] at h
    refine ⟨?_, handK_of σ H0 h.2⟩
    rw [h.1]; exact .inl rfl
theorem FnOb.call {P : Program} {f : FuncId} (σ : List Nat) {args0 args : List SV} {H0 H : SH} {K : SV → SH → Prop}
    (h : FnOb P f args0 H0 fun r H0' => growK H0 H0' fun olds news => newsK σ H.length news fun news => forceV (rn σ H.length r) fun r => putAllK σ H.length σ olds H fun H => appHK H news (K r))
    (hσ : σ.Nodup) (hat : σ.map (fun i => H[i]?) = H0.map fun p => some (rnP σ H.length p)) (hargs : args = args0.map (rn σ H.length)) : FnOb P f args H K :=
  FnOb.callL σ h hσ (handK_of σ H0 hat) hargs

/-- A window into the first rows of a slice. -/
theorem Lends.vec {b : Bs} {z : Bool} {c : Nat} {α : Type} {enc : α → List SV} {w : Nat} {l : List α} (l' : List α) (r : List α) (h : l = l' ++ r) : Lends (b, .vec z c enc w l) (b, .win enc w l') := by
  subst h
  refine ⟨rfl, fun W hW => ?_⟩
  have hb : BlkAt W (b, .vec z c enc w (l' ++ r)) := hW
  refine ⟨⟨fun x hx => hb.1.1 x (by simp [hx]), fun n v hv => hb.reads n v ?_⟩, fun k hk => ?_⟩
  · simp only [Blk.cells, List.flatMap_append]
    rw [List.getElem?_append_left (List.getElem?_eq_some_iff.1 hv).1]; exact hv
  · refine ⟨fun hz => ?_, hk.2⟩
    have h1 := hb.1.2
    rw [hz.2] at h1
    have : l' ++ r = [] := List.length_eq_zero_iff.1 (Nat.le_zero.1 h1.1)
    obtain ⟨rfl, _⟩ := List.append_eq_nil_iff.1 this
    rcases hk.1 with h | h
    · exact h
    · exact h.2 rfl
/-- A window into cells that are written out. -/
theorem Lends.lit {b : Bs} {cs : List SV} {α : Type} {enc : α → List SV} {w : Nat} {l' : List α} (h : cs = l'.flatMap enc) (hok : ∀ x ∈ l', (enc x).length = w) : Lends (b, .lit cs) (b, .win enc w l') := by
  subst h
  refine ⟨rfl, fun W hW => ?_⟩
  have hb : BlkAt W (b, .lit (l'.flatMap enc)) := hW
  exact ⟨⟨hok, hb.reads⟩, fun k hk => ⟨trivial, hk.2⟩⟩

/-- As it is, where the memory does not matter. -/
theorem FnOb.pure {P : Program} {f : FuncId} {args : List SV} {H : SH} {K : SV → SH → Prop} (h : FnOb P f args [] fun r _ => K r H) : FnOb P f args H K := by
  refine ⟨fun w hw => ?_⟩
  have hw0 : HSat w [] := ⟨fun i j p q _ hi => by simp at hi, by simp⟩
  have hno : ∀ k, ¬ Wr [] k := fun k ⟨p, hp, _⟩ => by simp at hp
  refine (h.run w hw0).mono fun e w' ⟨r, H0', he, h1, h2, h3⟩ => ?_
  refine ⟨r, H, he, ⟨hw.sep, fun p hp => ?_⟩, ⟨h2.os, h2.tape, h2.output, h2.size, fun k hk _ => h2.block k hk (hno k), fun k hk => .inl hk⟩, h3⟩
  exact (hw.at_ p hp).keep fun k hs => h2.block k (hw.lt hp hs) (hno _)
end Go.Sy
