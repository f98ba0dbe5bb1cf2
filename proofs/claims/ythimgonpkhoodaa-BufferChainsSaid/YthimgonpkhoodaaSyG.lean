/- SY, part G: regions, in the order of the text and in every order that their edges allow. Own work. -/
import Derived.Test.YthimgonpkhoodaaSyF
namespace Go.Sy
open Go.RowKit
set_option linter.unusedVariables false
set_option linter.unusedSimpArgs false

def putS (ts : List SV) (d : Option Tmp) (v : SV) : List SV := match d with
  | some d => ts.set d v
  | none => ts

def putK (ts : List SV) (d : Option Tmp) (v : SV) (k : List SV → Prop) : Prop := match d with
  | some d => forceV v fun v => setK ts d v k
  | none => k ts
theorem putK_eq (ts : List SV) (d : Option Tmp) (v : SV) (k : List SV → Prop) : putK ts d v k = k (putS ts d v) := by
  cases d with
  | none => rfl
  | some d => simp only [putK, putS, forceV_eq, setK_eq]

theorem act_put (ts : List SV) (d : Option Tmp) (v : SV) : (act ts).put d v.den = act (putS ts d v) := by
  cases d with
  | none => rfl
  | some d => simp [act, Act.put, putS, denL_eq, List.map_set]

theorem eval_act (ts : List SV) : (act ts).eval = fun x => (ev ts x).den := funext fun x => (ev_den ts x).symm

def guardK (all : Array Oper) (o : Oper) (ts : List SV) (run skip : List SV → Prop) : Prop :=
  match o.guard with
  | none => run ts
  | some (j, want) => match (all[j]?).bind (·.dst) with
    | none => skip ts
    | some d => match ts[d]? with
      | some (.bool b) => match want with
        | true => (b = true → setK ts d (.bool true) run) ∧ (b = false → setK ts d (.bool false) skip)
        | false => (b = false → setK ts d (.bool false) run) ∧ (b = true → setK ts d (.bool true) skip)
      | some (.raw v) => match v with
        | .bool _ => False
        | _ => skip ts
      | _ => skip ts

theorem denL_set_same {ts : List SV} {d : Nat} {v u : SV} (h : ts[d]? = some v) (hv : v.den = u.den) : denL (ts.set d u) = denL ts := by
  rw [denL_eq, denL_eq, List.map_set]
  apply List.ext_getElem?
  intro n
  rw [List.getElem?_set]
  split
  · rename_i hn
    subst hn
    split
    · rw [List.getElem?_map, h]; simp [hv]
    · rename_i hlt; simp at hlt; rw [List.getElem?_eq_none (by simpa using hlt)]
  · rfl

theorem guardK_spec {all : Array Oper} {o : Oper} {ts : List SV} {run skip : List SV → Prop} (h : guardK all o ts run skip) :
    ∃ ts', denL ts' = denL ts ∧ ((Region.wanted o (yielded all (act ts).tmps) = true ∧ run ts') ∨ (Region.wanted o (yielded all (act ts).tmps) = false ∧ skip ts')) := by
  unfold guardK at h
  simp only [setK_eq] at h
  cases hg : o.guard with
  | none => rw [hg] at h; exact ⟨ts, rfl, .inl ⟨by simp [Region.wanted, hg], h⟩⟩
  | some jw =>
    obtain ⟨j, want⟩ := jw
    rw [hg] at h
    simp only at h
    have hy : ∀ d, (all[j]?).bind (·.dst) = some d → yielded all (act ts).tmps j = match (denL ts)[d]? with | some (.bool b) => some b | _ => none := by
      intro d hd
      simp only [yielded, hd, Option.bind_some, act]
      simp only [List.getElem?_toArray]
      generalize (denL ts)[d]? = x
      cases x with
      | none => rfl
      | some v => cases v <;> rfl
    cases hd : (all[j]?).bind (·.dst) with
    | none =>
      rw [hd] at h
      exact ⟨ts, rfl, .inr ⟨by simp [Region.wanted, hg, yielded, hd], h⟩⟩
    | some d =>
      rw [hd] at h
      simp only at h
      have hy := hy d hd
      rw [denL_getElem?] at hy
      split at h
      · rename_i b hb
        rw [hb] at hy
        simp only [Option.map_some, SV.den] at hy
        cases want <;> cases b
        · exact ⟨_, denL_set_same hb rfl, .inl ⟨by simp [Region.wanted, hg, hy], h.1 rfl⟩⟩
        · exact ⟨_, denL_set_same hb rfl, .inr ⟨by simp [Region.wanted, hg, hy], h.2 rfl⟩⟩
        · exact ⟨_, denL_set_same hb rfl, .inr ⟨by simp [Region.wanted, hg, hy], h.2 rfl⟩⟩
        · exact ⟨_, denL_set_same hb rfl, .inl ⟨by simp [Region.wanted, hg, hy], h.1 rfl⟩⟩
      · rename_i v hb
        rw [hb] at hy
        simp only [Option.map_some, SV.den] at hy
        split at h
        · exact h.elim
        · rename_i hne
          have : yielded all (act ts).tmps j = none := by
            rw [hy]
            cases v <;> first | rfl | exact absurd rfl (hne _)
          exact ⟨ts, rfl, .inr ⟨by unfold Region.wanted; rw [hg]; simp only [this]; rfl, h⟩⟩
      · rename_i hb1 hb2
        have : yielded all (act ts).tmps j = none := by
          rw [hy]
          generalize hx : ts[d]? = x at hb1 hb2
          cases x with
          | none => rfl
          | some v => cases v <;> first | rfl | exact absurd rfl (hb1 _) | exact absurd rfl (hb2 _) | (rename_i i z b w j l c; simp only [SV.den, Option.map_some]; cases nilB z l c <;> rfl)
        exact ⟨ts, rfl, .inr ⟨by unfold Region.wanted; rw [hg]; simp only [this]; rfl, h⟩⟩

/-- Operations that turn memory, or call, or put a value into a variable. -/
def loud (P : Program) : Op → Bool
  | .move _ | .pick .. | .nilCheck _ | .binOp .. | .unOp .. | .fieldAddr .. | .field .. | .indexAddr .. | .index .. | .load .. | .slice .. | .build .. | .extract .. | .makeFunc .. => false
  | .convert _ d _ => match P.underlying d with
    | some (.slice _) => true
    | _ => false
  | .call c => match c.callee with
    | .builtin .len => match c.argTypes.toList with
      | t :: _ => match P.underlying t with
        | some (.map ..) => true
        | _ => false
      | _ => false
    | .builtin .min | .builtin .max => false
    | _ => true
  | _ => true

def opsK (P : Program) (all : Array Oper) (K : List SV → SH → Prop) (l : List Oper) : List SV → SH → Prop :=
  List.rec (motive := fun _ => List SV → SH → Prop) (fun ts H => K ts H)
    (fun o _ ih ts H => guardK all o ts
      (fun ts => if loud P o.op then doOp P o (ev ts) H (fun v H' => putK ts o.dst v fun ts => ih ts H') else rdOp P o.op (ev ts) H (fun v => putK ts o.dst v fun ts => ih ts H))
      (fun ts => putK ts o.dst (.raw undef) fun ts => ih ts H)) l

theorem opsK_cons (P : Program) (all : Array Oper) (K : List SV → SH → Prop) (o : Oper) (rest : List Oper) (ts : List SV) (H : SH) : opsK P all K (o :: rest) ts H = guardK all o ts
      (fun ts => if loud P o.op then doOp P o (ev ts) H (fun v H' => putK ts o.dst v fun ts => opsK P all K rest ts H') else rdOp P o.op (ev ts) H (fun v => putK ts o.dst v fun ts => opsK P all K rest ts H))
      (fun ts => putK ts o.dst (.raw undef) fun ts => opsK P all K rest ts H) := rfl

theorem did_wp {P : Program} {o : Oper} {ts : List SV} {w : World} {H : SH} {K : SV → SH → Prop} {next : Act → World → Prop} {Q : Exit → Act → World → Prop} (h : Did P o (ev ts) w H K)
    (hn : ∀ v H' w', HSat w' H' → Ext w H w' H' → K v H' → next ((act ts).put o.dst v.den) w') : o.wp P (act ts) w next Q := by
  unfold Oper.wp
  rw [eval_act]
  rcases h with ⟨v, H', w', hr, h1, h2, h3⟩ | ⟨f, args, hr, hc⟩
  · rcases hr with hr | ⟨hr, rfl⟩
    · rw [hr]; exact hn v H' w' h1 h2 h3
    · rw [hr]; exact hn _ H' w' h1 h2 h3
  · rw [hr, Oper.upon_enter]
    refine hc.mono fun e w' ⟨r, H', he, h1, h2, h3⟩ => ?_
    subst he
    exact hn r H' w' h1 h2 h3

theorem rd_did {P : Program} {o : Oper} {e : Operand → SV} {w : World} {H : SH} {K : SV → Prop} (hw : HSat w H) (h : rdOp P o.op e H K) : Did P o e w H (fun v H' => H' = H ∧ K v) := by
  obtain ⟨v, hk, r⟩ := rdOp_run (o := o) hw h
  exact .inl ⟨v, H, w, .inl (r w (.inl hw)), hw, Ext.refl _ _, rfl, hk⟩

theorem opsK_wp {P : Program} {all : Array Oper} {K : List SV → SH → Prop} {Q : Exit → Act → World → Prop} {w0 : World} {H0 : SH}
    (hQ : ∀ ts H w, HSat w H → Ext w0 H0 w H → K ts H → Q .normal (act ts) w) : ∀ (l : List Oper) (ts : List SV) (H : SH) (w : World), HSat w H → Ext w0 H0 w H → opsK P all K l ts H → wpList P all Q l (act ts) w
  | [], ts, H, w, hw, hx, h => hQ ts H w hw hx h
  | o :: rest, ts, H, w, hw, hx, h => by
    rw [opsK_cons] at h
    simp only [putK_eq] at h
    obtain ⟨ts', hts, h⟩ := guardK_spec h
    have ha : act ts = act ts' := by simp [act, hts]
    unfold wpList
    rw [ha] at h ⊢
    rcases h with ⟨hwt, h⟩ | ⟨hwt, h⟩
    · rw [if_pos hwt]
      refine .inl ?_
      by_cases hl : loud P o.op = true
      · rw [if_pos hl] at h
        refine did_wp (doOp_did hw h) fun v H' w' h1 h2 h3 => ?_
        rw [act_put]
        exact opsK_wp hQ rest _ H' w' h1 (hx.trans h2) h3
      · rw [if_neg hl] at h
        refine did_wp (rd_did hw h) fun v H' w' h1 h2 h3 => ?_
        obtain ⟨rfl, h3⟩ := h3
        rw [act_put]
        exact opsK_wp hQ rest _ _ w' h1 (hx.trans h2) h3
    · rw [if_neg (by simp [hwt])]
      have : (act ts').put o.dst undef = act (putS ts' o.dst (.raw undef)) := act_put ts' o.dst (.raw undef)
      rw [this]
      exact opsK_wp hQ rest _ H w hw hx h
end Go.Sy
