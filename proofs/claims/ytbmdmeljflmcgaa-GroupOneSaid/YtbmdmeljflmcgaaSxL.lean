/- SX, part L: a contract over a few blocks serves where more lie, and it may make new ones. Own work. -/
import Derived.Test.YtbmdmeljflmcgaaSxK
namespace Go.Sx
open Go.RowKit
set_option linter.unusedVariables false
set_option linter.unusedSimpArgs false

/-- The blocks that were there, and the new ones. -/
def growK (H0 H0' : SH) (k : SH → SH → Prop) : Prop :=
  List.rec (motive := fun _ => SH → (SH → SH → Prop) → Prop) (fun l k => k [] l) (fun p _ ih l k => match l with
    | [] => False
    | q :: l => (match p.2 with
      | .win .. => q = p
      | _ => q.1 = p.1 ∧ q.2.wr = true) ∧ ih l fun olds news => k (q :: olds) news) H0 H0' k

theorem growK_spec : ∀ (H0 H0' : SH) (k : SH → SH → Prop), growK H0 H0' k → ∃ olds news, H0' = olds ++ news ∧ keepK H0 olds ∧ k olds news
  | [], H0', k, h => ⟨[], H0', rfl, rfl, h⟩
  | p :: H0, [], k, h => False.elim h
  | p :: H0, q :: H0', k, h => by
    obtain ⟨h1, h2⟩ := (h : _ ∧ growK H0 H0' fun olds news => k (q :: olds) news)
    obtain ⟨olds, news, rfl, h4, h5⟩ := growK_spec H0 H0' _ h2
    exact ⟨q :: olds, news, rfl, ⟨h1, h4⟩, h5⟩

def newsK (τ : List Nat) (news : SH) (k : SH → Prop) : Prop :=
  List.rec (motive := fun _ => (SH → Prop) → Prop) (fun k => k []) (fun p _ ih k => p.2.wr = true ∧ ih fun l => k (rnP τ p :: l)) news k
theorem newsK_spec (τ : List Nat) : ∀ (news : SH) (k : SH → Prop), newsK τ news k → (∀ p ∈ news, p.2.wr = true) ∧ k (news.map (rnP τ))
  | [], k, h => ⟨by simp, h⟩
  | p :: news, k, h => by
    obtain ⟨h1, h2⟩ := (h : _ ∧ newsK τ news fun l => k (rnP τ p :: l))
    obtain ⟨h3, h4⟩ := newsK_spec τ news _ h2
    exact ⟨fun q hq => by rcases List.mem_cons.1 hq with rfl | hq; exact h1; exact h3 q hq, h4⟩

def appHK (H J : SH) (k : SH → Prop) : Prop :=
  List.rec (motive := fun _ => (SH → Prop) → Prop) (fun k => k J) (fun p _ ih k => ih fun l => k (p :: l)) H k
theorem appHK_eq (H J : SH) (k : SH → Prop) : appHK H J k = k (H ++ J) := by
  induction H generalizing k with
  | nil => rfl
  | cons p H ih => show (appHK H J fun l => k (p :: l)) = _; rw [ih]; rfl

theorem FnOb.grow {P : Program} {f : FuncId} (σ τ : List Nat) {args0 args : List SV} {H0 H : SH} {K : SV → SH → Prop}
    (h : FnOb P f args0 H0 fun r H0' => growK H0 H0' fun olds news => newsK τ news fun news => forceV (rn τ r) fun r => putAllK τ σ olds H fun H => appHK H news (K r))
    (hσ : σ.Nodup) (hat : σ.map (fun i => H[i]?) = H0.map fun p => some (rnP σ p)) (hargs : args = args0.map (rn σ)) : FnOb P f args H K := by
  refine ⟨h.fn, fun w hw => ?_⟩
  have hlen : σ.length = H0.length := by simpa using congrArg List.length hat
  have hget : ∀ (k s : Nat) (p : Bs × Blk), σ[k]? = some s → H0[k]? = some p → H[s]? = some (rnP σ p) := by
    intro k s p h1 h2
    have := congrArg (fun l => l[k]?) hat
    simp only [List.getElem?_map, h1, h2, Option.map_some, Option.some.injEq] at this
    exact this
  have hmem : ∀ (k : Nat) (p : Bs × Blk), H0[k]? = some p → ∃ s, σ[k]? = some s ∧ H[s]? = some (rnP σ p) := by
    intro k p h2
    have hk : k < σ.length := by rw [hlen]; exact (List.getElem?_eq_some_iff.1 h2).1
    exact ⟨σ[k], List.getElem?_eq_getElem hk, hget k _ p (List.getElem?_eq_getElem hk) h2⟩
  have hw0 : HSat w H0 := by
    constructor
    · intro i j p q hi hj hs hq hn
      obtain ⟨si, hsi, hHi⟩ := hmem i p hi
      obtain ⟨sj, hsj, hHj⟩ := hmem j q hj
      have hss := hw.inj si sj _ _ hHi hHj (solid_rn.2 hs) (by rw [wr_rn]; exact hq) hn
      subst hss
      have h1 := (List.getElem?_eq_some_iff.1 hsi)
      have h2 := (List.getElem?_eq_some_iff.1 hsj)
      exact nodup_inj hσ h1.1 h2.1 (h1.2.trans h2.2.symm)
    · intro p hp
      obtain ⟨k, hk⟩ := List.mem_iff_getElem?.1 hp
      obtain ⟨s, _, hs⟩ := hmem k p hk
      exact blkAt_rn.1 (hw.at_ _ (List.mem_of_getElem? hs))
  rw [hargs, denL_rn]
  refine (h.run w hw0).mono fun e w' ⟨r, H0', he, h1, h2, h3⟩ => ?_
  obtain ⟨olds, news, rfl, h3, h4⟩ := growK_spec _ _ _ h3
  obtain ⟨hnw, h4⟩ := newsK_spec _ _ _ h4
  rw [forceV_eq, putAllK_eq, appHK_eq] at h4
  obtain ⟨hl0, hkeep⟩ := keepK_spec _ _ h3
  have hO : ∀ (k : Nat) (q : Bs × Blk), olds[k]? = some q → (olds ++ news)[k]? = some q := fun k q h => by
    rw [List.getElem?_append_left (List.getElem?_eq_some_iff.1 h).1]; exact h
  have hN : ∀ (k : Nat) (q : Bs × Blk), news[k]? = some q → (olds ++ news)[olds.length + k]? = some q := fun k q h => by
    rw [List.getElem?_append_right (by omega), Nat.add_sub_cancel_left]; exact h
  have hwas : ∀ (j : Nat) (q : Bs × Blk), (putAll H σ (olds.map (rnP τ)))[j]? = some q → (∃ (k : Nat) (p0 q0 : Bs × Blk), σ[k]? = some j ∧ H0[k]? = some p0 ∧ olds[k]? = some q0 ∧ q = rnP τ q0) ∨ (H[j]? = some q ∧ ∀ k : Nat, σ[k]? ≠ some j) := by
    intro j q hq
    rcases putAll_get σ _ H j q hq with ⟨k, h1, h2⟩ | ⟨h1, h2⟩
    · rw [List.getElem?_map] at h2
      cases hq0 : olds[k]? with
      | none => rw [hq0] at h2; cases h2
      | some q0 =>
        rw [hq0] at h2
        have hk : k < H0.length := by rw [← hl0]; exact (List.getElem?_eq_some_iff.1 hq0).1
        exact .inl ⟨k, H0[k], q0, h1, List.getElem?_eq_getElem hk, hq0, (Option.some.inj h2).symm⟩
    · refine .inr ⟨h1, fun k hk => ?_⟩
      have := h2 k hk
      have hk' : k < olds.length := by rw [hl0, ← hlen]; exact (List.getElem?_eq_some_iff.1 hk).1
      rw [List.getElem?_map, List.getElem?_eq_getElem hk'] at this
      cases this
  have hold : ∀ (j : Nat) (q : Bs × Blk), (putAll H σ (olds.map (rnP τ)))[j]? = some q → ∃ p, H[j]? = some p ∧ q.1 = p.1 ∧ q.2.wr = p.2.wr ∧ (solid q → solid p) := by
    intro j q hq
    rcases hwas j q hq with ⟨k, p0, q0, hk, hp0, hq0, rfl⟩ | ⟨h1, _⟩
    · obtain ⟨e1, e2, e3⟩ := hkeep k p0 q0 hp0 hq0
      refine ⟨_, hget k j p0 hk hp0, e1, by rw [wr_rn, wr_rn, e2], fun hs => ?_⟩
      rw [solid_rn] at hs ⊢
      cases hb : p0.2.wr with
      | true => exact .inl hb
      | false => rw [← e3 hb]; exact hs
    · exact ⟨q, h1, rfl, rfl, id⟩
  have hlow : ∀ (j : Nat) (q : Bs × Blk), (putAll H σ (olds.map (rnP τ)))[j]? = some q → solid q → q.1.n < w.heap.size := by
    intro j q hq hs
    obtain ⟨p, hp, e1, _, e3⟩ := hold j q hq
    rw [e1]; exact hw.lt (List.mem_of_getElem? hp) (e3 hs)
  have hsub : ∀ k, Wr H0 k → Wr H k := by
    intro k ⟨p, hp, hpw, hpn⟩
    obtain ⟨n, hn⟩ := List.mem_iff_getElem?.1 hp
    obtain ⟨s, _, hs⟩ := hmem n p hn
    exact ⟨_, List.mem_of_getElem? hs, by rw [wr_rn]; exact hpw, hpn⟩
  have hhigh : ∀ (k : Nat) (q : Bs × Blk), news[k]? = some q → w.heap.size ≤ q.1.n := by
    intro k q hq
    rcases h2.sub q.1.n ⟨q, List.mem_append_right _ (List.mem_of_getElem? hq), hnw q (List.mem_of_getElem? hq), rfl⟩ with h | h
    · exfalso
      obtain ⟨p, hp, hpw, hpn⟩ := h
      obtain ⟨n, hn⟩ := List.mem_iff_getElem?.1 hp
      have hnl : n < olds.length := by rw [hl0]; exact (List.getElem?_eq_some_iff.1 hn).1
      obtain ⟨e1, e2, _⟩ := hkeep n p _ hn (List.getElem?_eq_getElem hnl)
      have := h1.inj (olds.length + k) n q _ (hN k q hq) (hO n _ (List.getElem?_eq_getElem hnl)) (.inl (hnw q (List.mem_of_getElem? hq))) (by rw [e2]; exact hpw) (by rw [e1]; exact hpn.symm)
      omega
    · exact h
  have hsplit : ∀ (j : Nat) (q : Bs × Blk), (putAll H σ (olds.map (rnP τ)) ++ news.map (rnP τ))[j]? = some q → (putAll H σ (olds.map (rnP τ)))[j]? = some q ∨ ((putAll H σ (olds.map (rnP τ))).length ≤ j ∧ ∃ q0, news[j - (putAll H σ (olds.map (rnP τ))).length]? = some q0 ∧ q = rnP τ q0) := by
    intro j q hq
    rw [List.getElem?_append] at hq
    split at hq
    · exact .inl hq
    · rw [List.getElem?_map] at hq
      cases hq0 : news[j - (putAll H σ (olds.map (rnP τ))).length]? with
      | none => rw [hq0] at hq; cases hq
      | some q0 => rw [hq0] at hq; exact .inr ⟨by omega, q0, rfl, (Option.some.inj hq).symm⟩
  refine ⟨rn τ r, _, by rw [rn_den]; exact he, ⟨fun i j p q hi hj hs hq hn => ?_, fun p hp => ?_⟩, ⟨h2.os, h2.tape, h2.output, h2.size, fun k hk hn => h2.block k hk (fun hh => hn (hsub k hh)), fun k hk => ?_, h2.form⟩, h4⟩
  · rcases hsplit i p hi with hi | ⟨hil, p0, hi', rfl⟩ <;> rcases hsplit j q hj with hj | ⟨hjl, q0, hj', rfl⟩
    · obtain ⟨p1, hp1, a1, a2, a3⟩ := hold i p hi
      obtain ⟨q1, hq1, b1, b2, b3⟩ := hold j q hj
      exact hw.inj i j p1 q1 hp1 hq1 (a3 hs) (by rw [← b2]; exact hq) (by rw [← a1, ← b1]; exact hn)
    · have := hlow i p hi hs
      have := hhigh _ _ hj'
      simp only [rnP] at hn; omega
    · have := hlow j q hj (.inl hq)
      have := hhigh _ _ hi'
      simp only [rnP] at hn; omega
    · have := h1.inj _ _ p0 q0 (hN _ _ hi') (hN _ _ hj') (solid_rn.1 hs) (by rw [wr_rn] at hq; exact hq) hn
      omega
  · rcases List.mem_append.1 hp with hp | hp
    · obtain ⟨j, hj⟩ := List.mem_iff_getElem?.1 hp
      rcases hwas j p hj with ⟨k, p0, q0, hk, hp0, hq0, rfl⟩ | ⟨hpj, hno⟩
      · exact blkAt_rn.2 (h1.at_ q0 (List.mem_of_getElem? (hO _ _ hq0)))
      · refine (hw.at_ p (List.mem_of_getElem? hpj)).keep fun hs => h2.block p.1.n (hw.lt (List.mem_of_getElem? hpj) hs) fun ⟨p0, hp0, hpw, hpn⟩ => ?_
        obtain ⟨n, hn⟩ := List.mem_iff_getElem?.1 hp0
        obtain ⟨s, hs', hHs⟩ := hmem n p0 hn
        have := hw.inj j s p _ hpj hHs hs (by rw [wr_rn]; exact hpw) hpn.symm
        subst this
        exact hno n hs'
    · obtain ⟨q0, hq0, rfl⟩ := List.mem_map.1 hp
      exact blkAt_rn.2 (h1.at_ q0 (List.mem_append_right _ hq0))
  · obtain ⟨p, hp, hpw, hpn⟩ := hk
    rcases List.mem_append.1 hp with hp | hp
    · obtain ⟨j, hj⟩ := List.mem_iff_getElem?.1 hp
      obtain ⟨p1, hp1, a1, a2, _⟩ := hold j p hj
      exact .inl ⟨p1, List.mem_of_getElem? hp1, by rw [← a2]; exact hpw, by rw [← a1]; exact hpn⟩
    · obtain ⟨q0, hq0, rfl⟩ := List.mem_map.1 hp
      obtain ⟨n, hn⟩ := List.mem_iff_getElem?.1 hq0
      exact .inr (by have := hhigh n q0 hn; simp only [rnP] at hpn; omega)

theorem partK_one {P : Program} {t : TypeId} {d : TypeDesc} {n off : Nat} {cs : List SV} {v : SV} {K : SV → Prop} (hu : P.underlying t = some d) (hs : szOf P t = some n) (ha : isAggT P t = false) (hv : cs[off]? = some v) (hk : K v) : partK P t cs off K := by
  unfold partK
  rw [hu, hs]
  simp only [ha, Bool.false_eq_true, if_false, hv, forceV_eq]
  exact hk

/-- What a contract tells, told anew, and its result too. -/
theorem FnOb.retell {P : Program} {f : FuncId} {args : List SV} {H : SH} {K K' : SV → SH → Prop} (h : FnOb P f args H K') (hk : ∀ r H', K' r H' → ∃ r' H'', SV.den r' = SV.den r ∧ Tells H' H'' ∧ K r' H'') : FnOb P f args H K := by
  refine ⟨h.1, fun w hw => (h.2 w hw).mono fun e w' ⟨r, H1, h1, h2, h3, h4⟩ => ?_⟩
  obtain ⟨r', H2, hd, t, hk⟩ := hk r H1 h4
  exact ⟨r', H2, by rw [hd]; exact h1, t.1 w' h2, h3.tells t, hk⟩
end Go.Sx
