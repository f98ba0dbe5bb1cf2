/- SX, part J: a contract over a few blocks serves where more lie. Own work. -/
import Derived.Test.YtbmdmeljflmcgaaSxI
namespace Go.Sx
open Go.RowKit
set_option linter.unusedVariables false
set_option linter.unusedSimpArgs false

/-- Names turned. -/
def rn1 (σ : List Nat) : SV → SV
  | .ptr i b w j f => .ptr (σ.getD i i) b w j f
  | .sl i b w j l c => .sl (σ.getD i i) b w j l c
  | v => v
def rn (σ : List Nat) : SV → SV
  | .agg cs => .agg (cs.map (rn1 σ))
  | .tup vs => .tup (vs.map (rn1 σ))
  | v => rn1 σ v
def rnB (σ : List Nat) : Blk → Blk
  | .lit cs => .lit (cs.map (rn1 σ))
  | b => b
def rnP (σ : List Nat) (p : Bs × Blk) : Bs × Blk := (p.1, rnB σ p.2)

theorem rn1_den (σ : List Nat) (v : SV) : (rn1 σ v).den = v.den := by cases v <;> rfl
theorem denL_rn1 (σ : List Nat) (l : List SV) : denL (l.map (rn1 σ)) = denL l := by
  rw [denL_eq, denL_eq, List.map_map]
  exact List.map_congr_left fun v _ => rn1_den σ v
theorem rn_den (σ : List Nat) (v : SV) : (rn σ v).den = v.den := by
  cases v <;> first | rfl | (simp only [rn, SV.den, denL_rn1])
theorem denL_rn (σ : List Nat) (l : List SV) : denL (l.map (rn σ)) = denL l := by
  rw [denL_eq, denL_eq, List.map_map]
  exact List.map_congr_left fun v _ => rn_den σ v
theorem reads_rn {w : World} {σ : List Nat} {b : Bs} {cs : List SV} : Reads w b (cs.map (rn1 σ)) ↔ Reads w b cs := by
  constructor
  · intro h n v hv
    have := h n (rn1 σ v) (by rw [List.getElem?_map, hv]; rfl)
    rw [rn1_den] at this; exact this
  · intro h n v hv
    rw [List.getElem?_map] at hv
    cases hc : cs[n]? with
    | none => rw [hc] at hv; cases hv
    | some u =>
      rw [hc] at hv
      obtain rfl := Option.some.inj hv
      rw [rn1_den]; exact h n u hc
theorem wr_rn (σ : List Nat) (p : Bs × Blk) : (rnP σ p).2.wr = p.2.wr := by
  obtain ⟨b, bk⟩ := p; cases bk <;> rfl
theorem solid_rn {σ : List Nat} {p : Bs × Blk} : solid (rnP σ p) ↔ solid p := by
  obtain ⟨b, bk⟩ := p
  cases bk <;> simp [solid, rnP, rnB, Blk.wr, Blk.cells]
theorem blkAt_rn {w : World} {σ : List Nat} {p : Bs × Blk} : BlkAt w (rnP σ p) ↔ BlkAt w p := by
  obtain ⟨b, bk⟩ := p
  cases bk with
  | lit cs => simp only [BlkAt, rnP, rnB, Blk.ok, Blk.cells, denL_rn1, List.length_map, reads_rn]; rfl
  | tab enc w' l => simp only [rnP, rnB]
  | win enc w' l => simp only [rnP, rnB]

def putAll : SH → List Nat → SH → SH
  | H, s :: σ, p :: l => putAll (H.set s p) σ l
  | H, _, _ => H

def putAllK (σ0 : List Nat) (σ : List Nat) (l : SH) (H : SH) (k : SH → Prop) : Prop :=
  List.rec (motive := fun _ => SH → SH → Prop) (fun _ H => k H) (fun s _ ih l H => match l with
    | [] => k H
    | p :: l => setHK H s (rnP σ0 p) fun H => ih l H) σ l H
theorem putAllK_eq (σ0 σ : List Nat) (l H : SH) (k : SH → Prop) : putAllK σ0 σ l H k = k (putAll H σ (l.map (rnP σ0))) := by
  induction σ generalizing l H with
  | nil => cases l <;> rfl
  | cons s σ ih =>
    cases l with
    | nil => rfl
    | cons p l => show (setHK H s (rnP σ0 p) fun H => putAllK σ0 σ l H k) = _; rw [setHK_eq, ih]; rfl

theorem putAll_get : ∀ (σ : List Nat) (l H : SH) (j : Nat) (q : Bs × Blk), (putAll H σ l)[j]? = some q → (∃ k : Nat, σ[k]? = some j ∧ l[k]? = some q) ∨ (H[j]? = some q ∧ ∀ k : Nat, σ[k]? = some j → l[k]? = none)
  | [], l, H, j, q, h => by cases l <;> exact .inr ⟨h, fun k hk => by simp at hk⟩
  | s :: σ, [], H, j, q, h => .inr ⟨h, fun k _ => by simp⟩
  | s :: σ, p :: l, H, j, q, h => by
    simp only [putAll] at h
    rcases putAll_get σ l _ j q h with ⟨k, h1, h2⟩ | ⟨h1, h2⟩
    · exact .inl ⟨k + 1, by simpa using h1, by simpa using h2⟩
    · rw [List.getElem?_set] at h1
      split at h1
      · rename_i hs
        split at h1
        · exact .inl ⟨0, by simp [hs], by simpa using h1⟩
        · cases h1
      · rename_i hs
        refine .inr ⟨h1, fun k hk => ?_⟩
        cases k with
        | zero => simp at hk; exact absurd hk hs
        | succ k => simpa using h2 k (by simpa using hk)

/-- What a contract must leave as it is: the blocks' numbers; a window. -/
def keepK (H0 H0' : SH) : Prop :=
  List.rec (motive := fun _ => SH → Prop) (fun l => l = []) (fun p _ ih l => match l with
    | [] => False
    | q :: l => (match p.2 with
      | .win .. => q = p
      | _ => q.1 = p.1 ∧ q.2.wr = true) ∧ ih l) H0 H0'

theorem keepK_spec : ∀ (H0 H0' : SH), keepK H0 H0' → H0'.length = H0.length ∧ ∀ (k : Nat) (p q : Bs × Blk), H0[k]? = some p → H0'[k]? = some q → q.1 = p.1 ∧ q.2.wr = p.2.wr ∧ (p.2.wr = false → q = p)
  | [], H0', h => by
    have : H0' = [] := h
    subst this
    exact ⟨rfl, fun k p q hk => by simp at hk⟩
  | p :: H0, [], h => False.elim h
  | p :: H0, q :: H0', h => by
    obtain ⟨h1, h2⟩ := (h : _ ∧ keepK H0 H0')
    obtain ⟨h3, h4⟩ := keepK_spec H0 H0' h2
    refine ⟨by simp [h3], fun k p' q' hp hq => ?_⟩
    cases k with
    | zero =>
      simp at hp hq
      subst hp; subst hq
      split at h1
      · subst h1; exact ⟨rfl, rfl, fun _ => rfl⟩
      · rename_i hne
        have hw : p.2.wr = true := by
          obtain ⟨b, bk⟩ := p
          cases bk <;> first | rfl | exact absurd rfl (hne _ _ _ _)
        exact ⟨h1.1, by rw [h1.2, hw], fun hf => by rw [hw] at hf; cases hf⟩
    | succ k => exact h4 k p' q' (by simpa using hp) (by simpa using hq)

theorem FnOb.frame {P : Program} {f : FuncId} (σ : List Nat) {args0 args : List SV} {H0 H : SH} {K : SV → SH → Prop}
    (h : FnOb P f args0 H0 fun r H0' => keepK H0 H0' ∧ forceV (rn σ r) fun r => putAllK σ σ H0' H (K r))
    (hσ : σ.Nodup) (hat : σ.map (fun i => H[i]?) = H0.map fun p => some (rnP σ p)) (hargs : args = args0.map (rn σ)) : FnOb P f args H K := by
  refine ⟨h.fn, fun w hw => ?_⟩
  have hlen : σ.length = H0.length := by simpa using congrArg List.length hat
  have hget : ∀ (k s : Nat) (p : Bs × Blk), σ[k]? = some s → H0[k]? = some p → H[s]? = some (rnP σ p) := by
    intro k s p h1 h2
    have := congrArg (fun l => l[k]?) hat
    simp only [List.getElem?_map, h1, h2, Option.map_some, Option.some.injEq] at this
    exact this
  have hmem : ∀ (k : Nat) (p : Bs × Blk), H0[k]? = some p → ∃ s, σ[k]? = some s ∧ H[s]? = some (rnP σ p) := by
    intro k p h2
    have hk : k < σ.length := by rw [hlen]; exact (List.getElem?_eq_some_iff.1 h2).1
    exact ⟨σ[k], List.getElem?_eq_getElem hk, hget k _ p (List.getElem?_eq_getElem hk) h2⟩
  have hw0 : HSat w H0 := by
    constructor
    · intro i j p q hi hj hs hq hn
      obtain ⟨si, hsi, hHi⟩ := hmem i p hi
      obtain ⟨sj, hsj, hHj⟩ := hmem j q hj
      have hss := hw.inj si sj _ _ hHi hHj (solid_rn.2 hs) (by rw [wr_rn]; exact hq) hn
      subst hss
      have h1 := (List.getElem?_eq_some_iff.1 hsi)
      have h2 := (List.getElem?_eq_some_iff.1 hsj)
      exact nodup_inj hσ h1.1 h2.1 (h1.2.trans h2.2.symm)
    · intro p hp
      obtain ⟨k, hk⟩ := List.mem_iff_getElem?.1 hp
      obtain ⟨s, _, hs⟩ := hmem k p hk
      exact blkAt_rn.1 (hw.at_ _ (List.mem_of_getElem? hs))
  rw [hargs, denL_rn]
  refine (h.run w hw0).mono fun e w' ⟨r, H0', he, h1, h2, h3, h4⟩ => ?_
  rw [forceV_eq, putAllK_eq] at h4
  obtain ⟨hl0, hkeep⟩ := keepK_spec _ _ h3
  -- an entry of the new telling: what it was
  have hwas : ∀ (j : Nat) (q : Bs × Blk), (putAll H σ (H0'.map (rnP σ)))[j]? = some q → (∃ (k : Nat) (p0 q0 : Bs × Blk), σ[k]? = some j ∧ H0[k]? = some p0 ∧ H0'[k]? = some q0 ∧ q = rnP σ q0) ∨ (H[j]? = some q ∧ ∀ k : Nat, σ[k]? ≠ some j) := by
    intro j q hq
    rcases putAll_get σ _ H j q hq with ⟨k, h1, h2⟩ | ⟨h1, h2⟩
    · rw [List.getElem?_map] at h2
      cases hq0 : H0'[k]? with
      | none => rw [hq0] at h2; cases h2
      | some q0 =>
        rw [hq0] at h2
        have hk : k < H0.length := by rw [← hl0]; exact (List.getElem?_eq_some_iff.1 hq0).1
        exact .inl ⟨k, H0[k], q0, h1, List.getElem?_eq_getElem hk, hq0, (Option.some.inj h2).symm⟩
    · refine .inr ⟨h1, fun k hk => ?_⟩
      have := h2 k hk
      have hk' : k < H0'.length := by rw [hl0, ← hlen]; exact (List.getElem?_eq_some_iff.1 hk).1
      rw [List.getElem?_map, List.getElem?_eq_getElem hk'] at this
      cases this
  have hold : ∀ (j : Nat) (q : Bs × Blk), (putAll H σ (H0'.map (rnP σ)))[j]? = some q → ∃ p, H[j]? = some p ∧ q.1 = p.1 ∧ q.2.wr = p.2.wr ∧ (solid q → solid p) := by
    intro j q hq
    rcases hwas j q hq with ⟨k, p0, q0, hk, hp0, hq0, rfl⟩ | ⟨h1, _⟩
    · obtain ⟨e1, e2, e3⟩ := hkeep k p0 q0 hp0 hq0
      refine ⟨_, hget k j p0 hk hp0, e1, by rw [wr_rn, wr_rn, e2], fun hs => ?_⟩
      rw [solid_rn] at hs ⊢
      cases hb : p0.2.wr with
      | true => exact .inl hb
      | false => rw [← e3 hb]; exact hs
    · exact ⟨q, h1, rfl, rfl, id⟩
  have hsub : ∀ k, Wr H0 k → Wr H k := by
    intro k ⟨p, hp, hpw, hpn⟩
    obtain ⟨n, hn⟩ := List.mem_iff_getElem?.1 hp
    obtain ⟨s, _, hs⟩ := hmem n p hn
    exact ⟨_, List.mem_of_getElem? hs, by rw [wr_rn]; exact hpw, hpn⟩
  refine ⟨rn σ r, _, by rw [rn_den]; exact he, ⟨fun i j p q hi hj hs hq hn => ?_, fun p hp => ?_⟩, ⟨h2.os, h2.tape, h2.output, h2.size, fun k hk hn => h2.block k hk (fun hh => hn (hsub k hh)), fun k hk => .inl ?_, h2.form⟩, h4⟩
  · obtain ⟨p1, hp1, a1, a2, a3⟩ := hold i p hi
    obtain ⟨q1, hq1, b1, b2, b3⟩ := hold j q hj
    exact hw.inj i j p1 q1 hp1 hq1 (a3 hs) (by rw [← b2]; exact hq) (by rw [← a1, ← b1]; exact hn)
  · obtain ⟨j, hj⟩ := List.mem_iff_getElem?.1 hp
    rcases hwas j p hj with ⟨k, p0, q0, hk, hp0, hq0, rfl⟩ | ⟨hpj, hno⟩
    · exact blkAt_rn.2 (h1.at_ q0 (List.mem_of_getElem? hq0))
    · refine (hw.at_ p (List.mem_of_getElem? hpj)).keep fun hs => h2.block p.1.n (hw.lt (List.mem_of_getElem? hpj) hs) fun ⟨p0, hp0, hpw, hpn⟩ => ?_
      obtain ⟨n, hn⟩ := List.mem_iff_getElem?.1 hp0
      obtain ⟨s, hs', hHs⟩ := hmem n p0 hn
      have := hw.inj j s p _ hpj hHs hs (by rw [wr_rn]; exact hpw) hpn.symm
      subst this
      exact hno n hs'
  · obtain ⟨p, hp, hpw, hpn⟩ := hk
    obtain ⟨j, hj⟩ := List.mem_iff_getElem?.1 hp
    obtain ⟨p1, hp1, a1, a2, _⟩ := hold j p hj
    exact ⟨p1, List.mem_of_getElem? hp1, by rw [← a2]; exact hpw, by rw [← a1]; exact hpn⟩

/-- As it is, where the memory does not matter. -/
theorem FnOb.pure {P : Program} {f : FuncId} {args : List SV} {H : SH} {K : SV → SH → Prop} (h : FnOb P f args [] fun r _ => K r H) : FnOb P f args H K := by
  refine ⟨h.fn, fun w hw => ?_⟩
  have hw0 : HSat w [] := ⟨fun i j p q hi => by simp at hi, by simp⟩
  have hno : ∀ k, ¬ Wr [] k := fun k ⟨p, hp, _⟩ => by simp at hp
  refine (h.run w hw0).mono fun e w' ⟨r, H0', he, h1, h2, h3⟩ => ?_
  refine ⟨r, H, he, ⟨hw.inj, fun p hp => ?_⟩, ⟨h2.os, h2.tape, h2.output, h2.size, fun k hk _ => h2.block k hk (hno k), fun k hk => .inl hk, h2.form⟩, h3⟩
  exact (hw.at_ p hp).keep fun hs => h2.block p.1.n (hw.lt hp hs) (hno _)
end Go.Sx
