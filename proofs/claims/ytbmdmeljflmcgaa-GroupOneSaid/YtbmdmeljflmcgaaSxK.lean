/- SX, part K: loops told by the slots that live on; blocks picked out. Own work. -/
import Derived.Test.YtbmdmeljflmcgaaSxJ
namespace Go.Sx
open Go.RowKit
set_option linter.unusedVariables false
set_option linter.unusedSimpArgs false

noncomputable def look (live : List (Nat × SV)) (k : Nat) (d : SV) : SV :=
  List.rec (motive := fun _ => SV) d (fun p _ ih => match Nat.beq p.1 k with
    | true => p.2
    | false => ih) live

/-- A frame of so many slots: those that live on, and whatever lies in the others. -/
noncomputable def mkT (live : List (Nat × SV)) (J : Nat → Value) (n : Nat) : Nat → List SV :=
  Nat.rec (motive := fun _ => Nat → List SV) (fun _ => []) (fun _ ih k => look live k (.raw (J k)) :: ih (k + 1)) n

def liveOk (ts : List SV) (live : List (Nat × SV)) : Prop :=
  List.rec (motive := fun _ => Prop) True (fun p _ ih => (ts.getD p.1 (.raw undef)).den = p.2.den ∧ ih) live

theorem look_den (ts : List SV) (live : List (Nat × SV)) (h : liveOk ts live) (k : Nat) : (look live k (.raw (ts.getD k (.raw undef)).den)).den = (ts.getD k (.raw undef)).den := by
  induction live with
  | nil => rfl
  | cons p live ih =>
    obtain ⟨h1, h2⟩ := (h : _ ∧ liveOk ts live)
    show (match Nat.beq p.1 k with
      | true => p.2
      | false => look live k (.raw (ts.getD k (.raw undef)).den)).den = _
    cases hb : Nat.beq p.1 k with
    | true =>
      have : p.1 = k := Nat.eq_of_beq_eq_true hb
      subst this
      exact h1.symm
    | false => exact ih h2

theorem mkT_den (ts : List SV) (live : List (Nat × SV)) (h : liveOk ts live) : ∀ (n k : Nat), k + n = ts.length → denL (mkT live (fun k => (ts.getD k (.raw undef)).den) n k) = denL (ts.drop k)
  | 0, k, hk => by
    rw [List.drop_eq_nil_of_le (by omega)]; rfl
  | n + 1, k, hk => by
    have hlt : k < ts.length := by omega
    rw [List.drop_eq_getElem_cons hlt]
    show denL (look live k (.raw (ts.getD k (.raw undef)).den) :: mkT live (fun k => (ts.getD k (.raw undef)).den) n (k + 1)) = _
    simp only [denL]
    rw [look_den ts live h k, mkT_den ts live h n (k + 1) (by omega)]
    congr 1
    rw [List.getD_eq_getElem?_getD, List.getElem?_eq_getElem hlt]
    rfl

/-- What a round ends in: the slots that live on, and the memory, told anew. -/
def turnK (N : Nat) (Inv : Nat → List (Nat × SV) → SH → Prop) (n : Nat) (K : Exit → List SV → SH → Prop) : Exit → List SV → SH → Prop := fun e ts H => match e with
  | .normal => ∃ m live H', m < n ∧ ts.length = N ∧ liveOk ts live ∧ Tells H H' ∧ Inv m live H'
  | e => K e ts H

theorem loop_live {P : Program} (hm : P.follows .mixedOrders = true) {S : Nat → Sched} {c : Code} (hok : okCode P S c = true) {ts : List SV} {H : SH} {K : Exit → List SV → SH → Prop} (N : Nat) (Inv : Nat → List (Nat × SV) → SH → Prop)
    (h0 : ∃ n0 live H', ts.length = N ∧ liveOk ts live ∧ Tells H H' ∧ Inv n0 live H')
    (step : ∀ n live H J, Inv n live H → forceL (mkT live J N 0) fun ts => ex P S c ts H (turnK N Inv n K)) : LoopOb P c ts H K := by
  obtain ⟨n0, live, H', hlen, hlive, htel, hinv⟩ := h0
  refine LoopOb.tells htel ?_
  have hact : act ts = act (mkT live (fun k => (ts.getD k (.raw undef)).den) N 0) := by
    simp only [act, mkT_den ts live hlive N 0 (by omega), List.drop_zero]
  refine ⟨fun w hw => ?_⟩
  rw [hact]
  refine wp_loop_ghost (fun n a w' => ∃ live J H1, a = act (mkT live J N 0) ∧ HSat w' H1 ∧ Ext w H' w' H1 ∧ Inv n live H1) n0 ⟨live, _, H', rfl, hw, Ext.refl _ _, hinv⟩ ?_
  intro n a w1 ⟨live1, J1, H1, ha, h1, h2, h3⟩
  subst ha
  have hs := step n live1 H1 J1 h3
  rw [forceL_eq] at hs
  refine wp_mono (ex_wp hm (w0 := w) (H0 := H') c _ H1 _ w1 hok hs h1 h2) fun e a' w' hq => ?_
  obtain ⟨ts2, H2, rfl, k1, k2, k3⟩ := hq
  cases e with
  | normal =>
    obtain ⟨m, live2, H3, hlt, hl2, hlv2, ht2, hI⟩ := k3
    refine ⟨m, hlt, live2, (fun k => (ts2.getD k (.raw undef)).den), H3, ?_, ht2.1 w' k1, k2.tells ht2, hI⟩
    simp only [act, mkT_den ts2 live2 hlv2 N 0 (by omega), List.drop_zero]
  | _ => exact ⟨ts2, H2, rfl, k1, k2, k3⟩

/-- Blocks picked out (and names turned). -/
theorem Tells.pick (σ ρ : List Nat) {H H' : SH} (hσ : σ.Nodup) (hat : (σ.map fun i => (H[i]?).map (rnP ρ)) = H'.map fun p => some p) : Tells H H' := by
  have hmem : ∀ (k : Nat) (p : Bs × Blk), H'[k]? = some p → ∃ s q, σ[k]? = some s ∧ H[s]? = some q ∧ p = rnP ρ q := by
    intro k p hk
    have := congrArg (fun l => l[k]?) hat
    simp only [List.getElem?_map, hk, Option.map_some] at this
    cases hs : σ[k]? with
    | none => rw [hs] at this; cases this
    | some s =>
      rw [hs] at this
      simp only [Option.map_some, Option.some.injEq] at this
      cases hq : H[s]? with
      | none => rw [hq] at this; cases this
      | some q => rw [hq] at this; exact ⟨s, q, rfl, hq, (Option.some.inj this).symm⟩
  constructor
  · intro w hw
    constructor
    · intro i j p q hi hj hs hq hn
      obtain ⟨si, p1, hsi, hp1, rfl⟩ := hmem i p hi
      obtain ⟨sj, q1, hsj, hq1, rfl⟩ := hmem j q hj
      have hss := hw.inj si sj p1 q1 hp1 hq1 (solid_rn.1 hs) (by rw [wr_rn] at hq; exact hq) hn
      subst hss
      have h1 := (List.getElem?_eq_some_iff.1 hsi)
      have h2 := (List.getElem?_eq_some_iff.1 hsj)
      exact nodup_inj hσ h1.1 h2.1 (h1.2.trans h2.2.symm)
    · intro p hp
      obtain ⟨k, hk⟩ := List.mem_iff_getElem?.1 hp
      obtain ⟨s, q, _, hq, rfl⟩ := hmem k p hk
      exact blkAt_rn.2 (hw.at_ _ (List.mem_of_getElem? hq))
  · intro b ⟨p, hp, hpw, hpn⟩
    obtain ⟨k, hk⟩ := List.mem_iff_getElem?.1 hp
    obtain ⟨s, q, _, hq, rfl⟩ := hmem k p hk
    exact ⟨q, List.mem_of_getElem? hq, by rw [wr_rn] at hpw; exact hpw, hpn⟩

/-- From symbolic memory that holds nothing but windows: nothing that was there has turned. -/
theorem Ext.below {w w' : World} {H H' : SH} (h : Ext w H w' H') (hn : ∀ k, ¬ Wr H k) : RowKit.Below w.heap.size w w' := ⟨h.os, h.tape, h.output, h.size, fun k hk => h.block k hk (hn k)⟩
end Go.Sx
