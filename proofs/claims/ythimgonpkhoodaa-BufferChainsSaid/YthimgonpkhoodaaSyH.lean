/- SY, part H: a region that draws its order: one walk serves every order. Own work. -/
import Derived.Test.YthimgonpkhoodaaSyG
namespace Go.Sy
open Go.RowKit
set_option linter.unusedVariables false
set_option linter.unusedSimpArgs false

/-- In which order operations are taken, each with those that are looked at once more behind it; where two orders are open, both. -/
inductive Plan where
  | nil
  | step (i : Nat) (chk : List Nat) (rest : Plan)
  | alt (a b : Plan)

/-- Those that come next. -/
def Plan.front : Plan → List Nat
  | .nil => []
  | .step i _ _ => [i]
  | .alt a b => a.front ++ b.front

/-- How a region is walked: which operations wait for which (bits), and in which order they are taken; 'cut': what holds behind it is told anew. -/
structure Sched where
  bits : List Nat
  ord : Plan
  cut : Bool

def stabK (P : Program) (all : Array Oper) (sk : List Nat) (ts : List SV) (H : SH) (l : List Nat) : Prop :=
  List.rec (motive := fun _ => Prop) True (fun i _ ih => (if sk.contains i then True else match all[i]? with
      | some o => match o.dst with
        | some d => match ts[d]? with
          | some v => rdOp P o.op (ev ts) H (fun v' => v' = v)
          | none => False
        | none => False
      | none => True) ∧ ih) l
theorem stabK_cons (P : Program) (all : Array Oper) (sk : List Nat) (ts : List SV) (H : SH) (i : Nat) (rest : List Nat) : stabK P all sk ts H (i :: rest) = ((if sk.contains i then True else match all[i]? with
      | some o => match o.dst with
        | some d => match ts[d]? with
          | some v => rdOp P o.op (ev ts) H (fun v' => v' = v)
          | none => False
        | none => False
      | none => True) ∧ stabK P all sk ts H rest) := rfl

def opsD (P : Program) (all : Array Oper) (K : List SV → SH → Prop) (l : Plan) : List Nat → List SV → SH → Prop :=
  Plan.rec (motive := fun _ => List Nat → List SV → SH → Prop) (fun _ ts H => K ts H)
    (fun i chk _ ih sk ts H => match all[i]? with
    | none => False
    | some o => guardK all o ts
      (fun ts => if loud P o.op then doOp P o (ev ts) H (fun v H' => putK ts o.dst v fun ts => stabK P all sk ts H' chk ∧ ih sk ts H') else rdOp P o.op (ev ts) H (fun v => putK ts o.dst v fun ts => ih sk ts H))
      (fun ts => putK ts o.dst (.raw undef) fun ts => ih (i :: sk) ts H))
    (fun _ _ iha ihb sk ts H => iha sk ts H ∧ ihb sk ts H) l
theorem opsD_alt (P : Program) (all : Array Oper) (K : List SV → SH → Prop) (a b : Plan) (sk : List Nat) (ts : List SV) (H : SH) : opsD P all K (.alt a b) sk ts H = (opsD P all K a sk ts H ∧ opsD P all K b sk ts H) := rfl
theorem opsD_cons (P : Program) (all : Array Oper) (K : List SV → SH → Prop) (i : Nat) (chk : List Nat) (rest : Plan) (sk : List Nat) (ts : List SV) (H : SH) : opsD P all K (.step i chk rest) sk ts H = (match all[i]? with
    | none => False
    | some o => guardK all o ts
      (fun ts => if loud P o.op then doOp P o (ev ts) H (fun v H' => putK ts o.dst v fun ts => stabK P all sk ts H' chk ∧ opsD P all K rest sk ts H') else rdOp P o.op (ev ts) H (fun v => putK ts o.dst v fun ts => opsD P all K rest sk ts H))
      (fun ts => putK ts o.dst (.raw undef) fun ts => opsD P all K rest (i :: sk) ts H)) := rfl

/-! ### what is asked of a walk's order -/
def looks (all : Array Oper) (o : Oper) : List Tmp := o.looksAt all

def names (all : Array Oper) (o : Oper) (t : Tmp) : Bool := (o.looksAt all).contains t || o.dst == some t

def bitOk (bits : List Nat) (all : Array Oper) (j : Nat) : Bool :=
  match all[j]? with
  | none => true
  | some o => bits.getD j 0 == o.after.toList.foldl (fun s e => if Region.binds .any e then s ||| 2 ^ e.on ||| bits.getD e.on 0 else s) 0 && o.after.toList.all (fun e => !Region.binds .any e || e.on < j)

def plainOp : Op → Bool
  | .select .. | .defer _ | .go _ => false
  | _ => true

def ordOk (P : Program) (all : Array Oper) (bits : List Nat) : Plan → List Nat → List Nat → Bool
  | .nil, _, done => (List.range all.size).all fun i => done.contains i
  | .alt a b, fr, done => ordOk P all bits a (b.front ++ fr) done && ordOk P all bits b (a.front ++ fr) done
  | .step i chk rest, fr, done =>
    (match all[i]? with
    | none => false
    | some o =>
      !done.contains i && plainOp o.op &&
      (List.range all.size).all (fun k => !(bits.getD i 0).testBit k || done.contains k) &&
      (if loud P o.op then (List.range all.size).all (fun j => done.contains j || j == i || fr.contains j || (List.range all.size).any fun k => !done.contains k && (bits.getD j 0).testBit k) else fr.isEmpty) &&
      (if loud P o.op then done.all (fun k => match all[k]? with
          | none => false
          | some ok => loud P ok.op || !memRd ok.op || (bits.getD i 0).testBit k || chk.contains k) &&
        (match o.dst with
        | none => true
        | some t => (List.range all.size).all fun k => k == i || match all[k]? with
          | none => true
          | some ok => !names all ok t || (bits.getD k 0).testBit i || (bits.getD i 0).testBit k)
      else match o.dst with
        | none => false
        | some t => !(o.looksAt all).contains t && (List.range all.size).all fun k => k == i || match all[k]? with
          | none => true
          | some ok => !names all ok t || (bits.getD k 0).testBit i)) &&
    ordOk P all bits rest [] (i :: done)

def okSched (P : Program) (all : Array Oper) (s : Sched) : Bool :=
  (List.range all.size).all (bitOk s.bits all) && ordOk P all s.bits s.ord [] []

theorem testBit_foldl (bits : List Nat) (i : Nat) : ∀ (l : List Edge) (s : Nat), (l.foldl (fun s e => if Region.binds .any e then s ||| 2 ^ e.on ||| bits.getD e.on 0 else s) s).testBit i = true →
    s.testBit i = true ∨ ∃ e ∈ l, Region.binds .any e = true ∧ (e.on = i ∨ (bits.getD e.on 0).testBit i = true)
  | [], s, h => .inl h
  | e :: l, s, h => by
    rw [List.foldl_cons] at h
    rcases testBit_foldl bits i l _ h with h | ⟨e', he', h⟩
    · by_cases hb : Region.binds .any e = true
      · rw [if_pos hb, Nat.testBit_or, Nat.testBit_or, Bool.or_eq_true, Bool.or_eq_true] at h
        rcases h with (h | h) | h
        · exact .inl h
        · rw [Nat.testBit_two_pow] at h
          exact .inr ⟨e, by simp, hb, .inl (by simpa using h)⟩
        · exact .inr ⟨e, by simp, hb, .inr h⟩
      · rw [if_neg hb] at h; exact .inl h
    · exact .inr ⟨e', by simp [he'], h⟩

/-- Whoever has come up has all behind it that it waits for. -/
def DownClosed (all : Array Oper) (listed : Array Bool) : Prop :=
  ∀ (j : Nat) (o : Oper), all[j]? = some o → listed.getD j false = true → ∀ e ∈ o.after, Region.binds .any e = true → listed.getD e.on false = true

theorem bits_listed {all : Array Oper} {bits : List Nat} (hb : (List.range all.size).all (bitOk bits all) = true) {listed : Array Bool} (hd : DownClosed all listed) (i : Nat) :
    ∀ (j : Nat) (o : Oper), all[j]? = some o → (∀ e ∈ o.after, Region.binds .any e = true → listed.getD e.on false = true) → (bits.getD j 0).testBit i = true → listed.getD i false = true := by
  intro j
  induction j using Nat.strongRecOn with
  | _ j ih =>
    intro o ho hpre hbit
    have hj : j < all.size := (Array.getElem?_eq_some_iff.1 ho).1
    have h1 := List.all_eq_true.1 hb j (List.mem_range.2 hj)
    simp only [bitOk, ho, Bool.and_eq_true, beq_iff_eq] at h1
    obtain ⟨h1, h2⟩ := h1
    rw [h1] at hbit
    rcases testBit_foldl bits i _ 0 hbit with h | ⟨e, he, hbe, h⟩
    · simp at h
    · have he' : e ∈ o.after := by simpa using he
      have hl := hpre e he' hbe
      rcases h with rfl | h
      · exact hl
      · have hlt : e.on < j := by
          have := List.all_eq_true.1 h2 e he
          simpa [hbe] using this
        have hex : ∃ oe, all[e.on]? = some oe := ⟨_, Array.getElem?_eq_getElem (by omega)⟩
        obtain ⟨oe, hoe⟩ := hex
        exact ih e.on hlt oe hoe (hd e.on oe hoe hl) h

section sim
variable {P : Program} {all : Array Oper} {bits : List Nat} {K : List SV → SH → Prop} {Q : Exit → Act → World → Prop} {w0 : World} {H0 : SH}

/-- What has been reckoned of an operation that has not come up yet. -/
def Good (P : Program) (all : Array Oper) (sk : List Nat) (ts : List SV) (H : SH) (i : Nat) : Prop :=
  ∀ o, all[i]? = some o → loud P o.op = false ∧ ∃ v : Value, (∀ d, o.dst = some d → d < ts.length → (denL ts)[d]? = some v) ∧
    ((i ∈ sk ∧ Region.wanted o (yielded all (act ts).tmps) = false ∧ v = undef) ∨
     (i ∉ sk ∧ Region.wanted o (yielded all (act ts).tmps) = true ∧ ∀ w, (HSat w H ∨ memRd o.op = false) → (execOp (act ts).eval o).run P w = .ok (.value v) w))

structure Sim (P : Program) (all : Array Oper) (bits : List Nat) (w0 : World) (H0 : SH) (done : List Nat) (listed : Array Bool) (sk : List Nat) (ts : List SV) (H : SH) (a : Act) (w : World) : Prop where
  sub : ∀ i, listed.getD i false = true → i ∈ done
  louds : ∀ i ∈ done, ∀ o, all[i]? = some o → loud P o.op = true → listed.getD i false = true
  sat : HSat w H
  ext : Ext w0 H0 w H
  defers : a.defers = []
  len : a.tmps.size = ts.length
  tmps : ∀ t, (∀ i ∈ done, listed.getD i false = false → ∀ o, all[i]? = some o → o.dst ≠ some t) → a.tmps[t]? = (denL ts)[t]?
  good : ∀ i ∈ done, listed.getD i false = false → Good P all sk ts H i
  down : DownClosed all listed
  size : listed.size = all.size
  skd : ∀ i ∈ sk, i ∈ done
  wf : ∀ i ∈ done, ∀ o, all[i]? = some o → plainOp o.op = true ∧ (loud P o.op = false → ∃ t, o.dst = some t ∧ t ∉ o.looksAt all ∧ ∀ k ok, k ≠ i → all[k]? = some ok → names all ok t = true → (bits.getD k 0).testBit i = true)

theorem eval_agree {a b : Act} {o : Oper} (hp : plainOp o.op = true) (h : ∀ t ∈ o.looksAt all, a.tmps[t]? = b.tmps[t]?) :
    execOp a.eval o = execOp b.eval o ∧ Region.wanted o (yielded all a.tmps) = Region.wanted o (yielded all b.tmps) := by
  constructor
  · refine execOp_congr o (fun cs bl hh => by rw [hh] at hp; simp [plainOp] at hp) fun x hx => ?_
    cases x with
    | tmp t =>
      have := h t (List.mem_append_left _ (List.mem_filterMap.2 ⟨.tmp t, by simpa using hx, rfl⟩))
      simp [Act.eval, this]
    | _ => rfl
  · unfold Region.wanted
    cases hg : o.guard with
    | none => rfl
    | some gw =>
      obtain ⟨g, want⟩ := gw
      have : yielded all a.tmps g = yielded all b.tmps g := by
        unfold yielded
        cases ht : (all[g]?).bind (·.dst) with
        | none => rfl
        | some t =>
          have := h t (by simp [Oper.looksAt, hg, ht])
          simp [this]
      simp only [this]

theorem names_looks {o : Oper} {t : Tmp} (h : t ∈ o.looksAt all) : names all o t = true := by simp [names, h]
theorem names_dst {o : Oper} {t : Tmp} (h : o.dst = some t) : names all o t = true := by simp [names, h]

variable {done : List Nat} {listed : Array Bool} {sk : List Nat} {ts : List SV} {H : SH} {a : Act} {w : World}

/-- What an operation that may come up now looks at is as it was reckoned. -/
theorem Sim.agree (S : Sim P all bits w0 H0 done listed sk ts H a w) (hb : (List.range all.size).all (bitOk bits all) = true) {i : Nat} {o : Oper} (ho : all[i]? = some o)
    (hpre : ∀ e ∈ o.after, Region.binds .any e = true → listed.getD e.on false = true) {t : Tmp} (ht : names all o t = true) (hself : i ∈ done → loud P o.op = false → t ∈ o.looksAt all) : a.tmps[t]? = (denL ts)[t]? := by
  refine S.tmps t fun i' hi' hun o' ho' hd => ?_
  have hnl : loud P o'.op = false := by
    cases hl : loud P o'.op with
    | false => rfl
    | true => rw [S.louds i' hi' o' ho' hl] at hun; cases hun
  obtain ⟨t', ht', hself', hall⟩ := (S.wf i' hi' o' ho').2 hnl
  rw [ht'] at hd
  obtain rfl := Option.some.inj hd
  by_cases hii : i = i'
  · subst hii
    rw [ho] at ho'
    obtain rfl := Option.some.inj ho'
    exact hself' (hself hi' hnl)
  · have := bits_listed hb S.down i' i o ho hpre (hall i o hii ho ht)
    rw [this] at hun; cases hun

theorem getD_set_eq {listed : Array Bool} {i : Nat} (h : i < listed.size) (d : Bool) : (listed.setIfInBounds i true).getD i d = true := by simp [h]

theorem down_set (hd : DownClosed all listed) {i : Nat} {o : Oper} (ho : all[i]? = some o) (hpre : ∀ e ∈ o.after, Region.binds .any e = true → listed.getD e.on false = true) : DownClosed all (listed.setIfInBounds i true) := by
  intro j oj hoj hl e he hbe
  refine getD_set_true ?_
  by_cases hij : i = j
  · subst hij
    rw [ho] at hoj
    obtain rfl := Option.some.inj hoj
    exact hpre e he hbe
  · rw [getD_set_ne false hij] at hl
    exact hd j oj hoj hl e he hbe

theorem put_tmps (a : Act) (d : Option Tmp) (v : Value) (t : Tmp) : (a.put d v).tmps[t]? = if d = some t ∧ t < a.tmps.size then some v else a.tmps[t]? := by
  cases d with
  | none => simp [Act.put]
  | some d =>
    simp only [Act.put, Array.getElem?_setIfInBounds, Option.some.injEq]
    by_cases h : d = t
    · subst h
      by_cases hs : d < a.tmps.size <;> simp [hs]
    · simp [h]

theorem putS_den (ts : List SV) (d : Option Tmp) (v : SV) (t : Tmp) : (denL (putS ts d v))[t]? = if d = some t ∧ t < ts.length then some v.den else (denL ts)[t]? := by
  cases d with
  | none => simp [putS]
  | some d =>
    simp only [putS, denL_eq, List.map_set, List.getElem?_set, Option.some.injEq, List.length_map]
    by_cases h : d = t
    · subst h
      by_cases hs : d < ts.length <;> simp [hs]
    · simp [h]

/-- One that was reckoned comes up. -/
theorem Sim.stepB (S : Sim P all bits w0 H0 done listed sk ts H a w) (hb : (List.range all.size).all (bitOk bits all) = true) {i : Nat} (hr : i ∈ Region.ready .any all listed) (hi : i ∈ done) :
    ∃ o v, all[i]? = some o ∧ Sim P all bits w0 H0 done (listed.setIfInBounds i true) sk ts H (a.put o.dst v) w ∧ ∀ K' : Act → World → Prop, K' (a.put o.dst v) w → wpOp P all Q i K' a w := by
  obtain ⟨hun, o, ho, hpre⟩ := mem_ready.1 hr
  have hun' : listed.getD i false = false := by
    rcases Nat.lt_or_ge i listed.size with h | h
    · simp [h] at hun ⊢; exact hun
    · simp [Array.getElem?_eq_none h] at hun
  obtain ⟨hnl, v, hv, hg⟩ := S.good i hi hun' o ho
  obtain ⟨hplain, hwf⟩ := S.wf i hi o ho
  have hag := eval_agree (a := a) (b := act ts) hplain fun t ht => by
    rw [S.agree hb ho hpre (names_looks ht) (fun _ _ => ht)]
    simp [act]
  refine ⟨o, v, ho, ?_, fun K' hK => ?_⟩
  · have hisz : i < listed.size := by rw [S.size]; exact (Array.getElem?_eq_some_iff.1 ho).1
    refine ⟨fun j hj => ?_, fun j hj oj hoj hl => getD_set_true (S.louds j hj oj hoj hl), S.sat, S.ext, ?_, ?_, fun t ht => ?_, fun j hj hjun => S.good j hj ?_, down_set S.down ho hpre, by simpa using S.size, S.skd, S.wf⟩
    · by_cases hij : i = j
      · subst hij; exact hi
      · rw [getD_set_ne false hij] at hj; exact S.sub j hj
    · cases o.dst <;> simp [Act.put, S.defers]
    · cases o.dst <;> simp [Act.put, S.len]
    · rw [put_tmps]
      split
      · rename_i hd
        exact (hv t hd.1 (by rw [← S.len]; exact hd.2)).symm
      · rename_i hd
        rcases Nat.lt_or_ge t a.tmps.size with hts | hts
        · refine S.tmps t fun i' hi' hun2 o' ho' hd' => ?_
          by_cases hii : i = i'
          · subst hii
            rw [ho] at ho'
            obtain rfl := Option.some.inj ho'
            exact hd ⟨hd', hts⟩
          · exact ht i' hi' (by rw [getD_set_ne false hii]; exact hun2) o' ho' hd'
        · rw [Array.getElem?_eq_none hts, List.getElem?_eq_none (by rw [denL_eq, List.length_map, ← S.len]; exact hts)]
    · by_cases hij : i = j
      · subst hij; rw [getD_set_eq hisz] at hjun; cases hjun
      · rw [getD_set_ne false hij] at hjun; exact hjun
  · unfold wpOp
    simp only [ho]
    rw [hag.2]
    rcases hg with ⟨_, hw, rfl⟩ | ⟨_, hw, hrun⟩
    · rw [if_neg (by simp [hw])]; exact hK
    · rw [if_pos hw]
      refine .inl ?_
      unfold Oper.wp
      rw [hag.1, hrun w (.inl S.sat)]
      exact hK

theorem len_of_den {ts ts' : List SV} (h : denL ts' = denL ts) : ts'.length = ts.length := by
  have := congrArg List.length h
  simpa [denL_eq] using this

theorem act_of_den {ts ts' : List SV} (h : denL ts' = denL ts) : act ts' = act ts := by simp [act, h]

theorem Good.of_den {ts' : List SV} (h : denL ts' = denL ts) {i : Nat} (g : Good P all sk ts H i) : Good P all sk ts' H i := by
  intro o ho
  obtain ⟨h1, v, h2, h3⟩ := g o ho
  refine ⟨h1, v, fun d hd hl => ?_, ?_⟩
  · rw [h]; exact h2 d hd (by rw [← len_of_den h]; exact hl)
  · rw [act_of_den h]; exact h3

/-- A change of one temporary that the operation does not name. -/
theorem Good.of_put {d : Option Tmp} {u : SV} {sk' : List Nat} {i : Nat} (hsk : i ∈ sk ↔ i ∈ sk') (hp : ∀ o, all[i]? = some o → plainOp o.op = true) (hn : ∀ o t, all[i]? = some o → d = some t → names all o t = false) (g : Good P all sk ts H i) :
    Good P all sk' (putS ts d u) H i := by
  intro o ho
  obtain ⟨h1, v, h2, h3⟩ := g o ho
  have hlen : (putS ts d u).length = ts.length := by cases d <;> simp [putS]
  have hag := eval_agree (all := all) (a := act (putS ts d u)) (b := act ts) (hp o ho) fun t ht => by
    simp only [act, List.getElem?_toArray]
    rw [putS_den, if_neg]
    rintro ⟨rfl, _⟩
    have := hn o t ho rfl
    rw [names_looks ht] at this
    cases this
  refine ⟨h1, v, fun t ht hl => ?_, ?_⟩
  · rw [putS_den, if_neg]
    · exact h2 t ht (by rw [← hlen]; exact hl)
    · rintro ⟨rfl, _⟩
      have := hn o t ho rfl
      rw [names_dst ht] at this
      cases this
  · rw [hag.1, hag.2, ← hsk]; exact h3

theorem names_of {bits : List Nat} {i : Nat} {t : Tmp} (h : (List.range all.size).all (fun k => k == i || match all[k]? with
    | none => true
    | some ok => !names all ok t || (bits.getD k 0).testBit i) = true) : ∀ k ok, k ≠ i → all[k]? = some ok → names all ok t = true → (bits.getD k 0).testBit i = true := by
  intro k ok hk hok hn
  have hlt : k < all.size := (Array.getElem?_eq_some_iff.1 hok).1
  have := List.all_eq_true.1 h k (List.mem_range.2 hlt)
  simp only [hok, Bool.or_eq_true, beq_iff_eq, hk, false_or, hn, Bool.not_true, Bool.false_eq_true] at this
  exact this

theorem bits_done {bits : List Nat} {i : Nat} (h : (List.range all.size).all (fun k => !(bits.getD i 0).testBit k || done.contains k) = true) {k : Nat} (hk : k < all.size) (hb : (bits.getD i 0).testBit k = true) : k ∈ done := by
  have := List.all_eq_true.1 h k (List.mem_range.2 hk)
  simp only [hb, Bool.not_true, Bool.false_or] at this
  exact List.contains_iff_mem.1 this

/-- One that only looks is reckoned ahead. -/
theorem Sim.stepA (S : Sim P all bits w0 H0 done listed sk ts H a w) {i : Nat} {chk : List Nat} {rest : Plan} {o : Oper} (ho : all[i]? = some o) (hnl : loud P o.op = false)
    {fr : List Nat} (hord : ordOk P all bits (.step i chk rest) fr done = true) (hD : opsD P all K (.step i chk rest) sk ts H) (hbd : ∀ j ∈ done, (List.range all.size).all (fun k => !(bits.getD j 0).testBit k || done.contains k) = true) :
    ∃ sk' ts', Sim P all bits w0 H0 (i :: done) listed sk' ts' H a w ∧ opsD P all K rest sk' ts' H := by
  unfold ordOk at hord
  simp only [ho, hnl, Bool.false_eq_true, if_false, Bool.and_eq_true, Bool.not_eq_true'] at hord
  obtain ⟨⟨⟨⟨⟨hnd, hplain⟩, hbits⟩, hlouds⟩, hdst⟩, hrest⟩ := hord
  have hnd' : i ∉ done := by simpa using hnd
  cases hd : o.dst with
  | none => simp [hd] at hdst
  | some t =>
    simp only [hd, Bool.and_eq_true, Bool.not_eq_true'] at hdst
    obtain ⟨hself, hnames⟩ := hdst
    have hnames' := names_of hnames
    have hself' : t ∉ o.looksAt all := by simpa using hself
    have hil : i < all.size := (Array.getElem?_eq_some_iff.1 ho).1
    -- none of those reckoned names this one's temporary
    have hfar : ∀ j ∈ done, ∀ oj, all[j]? = some oj → names all oj t = false := by
      intro j hj oj hoj
      cases hn : names all oj t with
      | false => rfl
      | true =>
        have hji : j ≠ i := fun e => hnd' (e ▸ hj)
        exact absurd (bits_done (hbd j hj) hil (hnames' j oj hji hoj hn)) hnd'
    rw [opsD_cons] at hD
    simp only [ho, hnl, Bool.false_eq_true, if_false, putK_eq] at hD
    obtain ⟨ts1, hts1, hD⟩ := guardK_spec hD
    have hw1 : Region.wanted o (yielded all (act ts1).tmps) = Region.wanted o (yielded all (act ts).tmps) := by rw [act_of_den hts1]
    have build : ∀ (v : SV) (sk' : List Nat), (∀ j ∈ done, (j ∈ sk ↔ j ∈ sk')) → (∀ j ∈ sk', j ∈ i :: done) →
        ((i ∈ sk' ∧ Region.wanted o (yielded all (act ts1).tmps) = false ∧ v.den = undef) ∨ (i ∉ sk' ∧ Region.wanted o (yielded all (act ts1).tmps) = true ∧ ∀ w, (HSat w H ∨ memRd o.op = false) → (execOp (act ts1).eval o).run P w = .ok (.value v.den) w)) →
        Sim P all bits w0 H0 (i :: done) listed sk' (putS ts1 o.dst v) H a w := by
      intro v sk' hsk hskd hg
      have hl1 : (putS ts1 o.dst v).length = ts.length := by rw [hd]; simp [putS, len_of_den hts1]
      refine ⟨fun j hj => List.mem_cons_of_mem _ (S.sub j hj), ?_, S.sat, S.ext, S.defers, by rw [hl1]; exact S.len, ?_, ?_, S.down, S.size, hskd, ?_⟩
      · intro j hj oj hoj hl
        rcases List.mem_cons.1 hj with rfl | hj
        · rw [ho] at hoj; obtain rfl := Option.some.inj hoj; rw [hnl] at hl; cases hl
        · exact S.louds j hj oj hoj hl
      · intro t' ht'
        rw [putS_den, hd]
        split
        · rename_i he
          have := ht' i (by simp) (by
            cases hl : listed.getD i false with
            | false => rfl
            | true => exact absurd (S.sub i hl) hnd') o ho
          exact absurd (hd.trans he.1) this
        · rw [hts1]
          exact S.tmps t' fun j hj => ht' j (List.mem_cons_of_mem _ hj)
      · intro j hj hun
        rcases List.mem_cons.1 hj with rfl | hj
        · intro oj hoj
          rw [ho] at hoj; obtain rfl := Option.some.inj hoj
          have hag := eval_agree (all := all) (a := act (putS ts1 o.dst v)) (b := act ts1) hplain fun t' ht' => by
            simp only [act, List.getElem?_toArray]
            rw [putS_den, if_neg]
            rintro ⟨he, _⟩
            rw [hd] at he
            obtain rfl := Option.some.inj he
            exact hself' ht'
          refine ⟨hnl, v.den, fun d hd' hlt => ?_, ?_⟩
          · rw [putS_den, if_pos ⟨hd', by rw [hl1, ← len_of_den hts1] at hlt; exact hlt⟩]
          · rw [hag.1, hag.2]; exact hg
        · refine Good.of_put (sk := sk) (hsk j hj) (fun oj hoj => (S.wf j hj oj hoj).1) (fun oj t' hoj he => ?_) ((S.good j hj hun).of_den hts1)
          rw [hd] at he
          obtain rfl := Option.some.inj he
          exact hfar j hj oj hoj
      · intro j hj oj hoj
        rcases List.mem_cons.1 hj with rfl | hj
        · rw [ho] at hoj; obtain rfl := Option.some.inj hoj
          exact ⟨hplain, fun _ => ⟨t, hd, hself', hnames'⟩⟩
        · exact S.wf j hj oj hoj
    rcases hD with ⟨hwt, hD⟩ | ⟨hwt, hD⟩
    · obtain ⟨v, hk, hr⟩ := rdOp_run (P := P) (o := o) S.sat hD
      refine ⟨sk, _, build v sk (fun _ _ => Iff.rfl) (fun j hj => List.mem_cons_of_mem _ (S.skd j hj)) (.inr ⟨fun h => hnd' (S.skd i h), by rw [hw1]; exact hwt, fun w' hw' => ?_⟩), hk⟩
      rw [eval_act]; exact hr w' hw'
    · refine ⟨i :: sk, _, build (.raw undef) (i :: sk) (fun j hj => ?_) (fun j hj => ?_) (.inl ⟨by simp, by rw [hw1]; exact hwt, rfl⟩), hD⟩
      · have hji : j ≠ i := fun e => hnd' (e ▸ hj)
        simp [hji]
      · rcases List.mem_cons.1 hj with rfl | hj
        · simp
        · exact List.mem_cons_of_mem _ (S.skd j hj)

theorem stabK_of (sk : List Nat) (ts : List SV) (H : SH) : ∀ (chk : List Nat), stabK P all sk ts H chk → ∀ i ∈ chk, i ∉ sk → ∀ o d v, all[i]? = some o → o.dst = some d → ts[d]? = some v → rdOp P o.op (ev ts) H (fun v' => v' = v)
  | [], _, i, hi, _, _, _, _, _, _, _ => by simp at hi
  | j :: rest, h, i, hi, hns, o, d, v, ho, hd, hv => by
    rw [stabK_cons] at h
    rcases List.mem_cons.1 hi with rfl | hi
    · have h1 := h.1
      rw [if_neg (by simpa using hns)] at h1
      simp only [ho, hd, hv] at h1
      exact h1
    · exact stabK_of sk ts H rest h.2 i hi hns o d v ho hd hv

/-- One that turns memory comes up, all ahead of it reckoned. -/
theorem Sim.stepC (S : Sim P all bits w0 H0 done listed sk ts H a w) (hb : (List.range all.size).all (bitOk bits all) = true) {i : Nat} {chk : List Nat} {rest : Plan} {o : Oper} (ho : all[i]? = some o) (hl : loud P o.op = true)
    (hr : i ∈ Region.ready .any all listed) {fr : List Nat} (hord : ordOk P all bits (.step i chk rest) fr done = true) (hD : opsD P all K (.step i chk rest) sk ts H)
    (hbd : ∀ j ∈ done, (List.range all.size).all (fun k => !(bits.getD j 0).testBit k || done.contains k) = true)
    {K' : Act → World → Prop} (hK : ∀ sk' ts' H' a' w', Sim P all bits w0 H0 (i :: done) (listed.setIfInBounds i true) sk' ts' H' a' w' → opsD P all K rest sk' ts' H' → K' a' w') : wpOp P all Q i K' a w := by
  obtain ⟨hun, o', ho', hpre⟩ := mem_ready.1 hr
  rw [ho] at ho'
  obtain rfl := Option.some.inj ho'
  unfold ordOk at hord
  simp only [ho, hl, if_true, Bool.and_eq_true, Bool.not_eq_true'] at hord
  obtain ⟨⟨⟨⟨⟨hnd, hplain⟩, hbits⟩, hlouds⟩, ⟨hchk, hdst⟩⟩, hrest⟩ := hord
  have hnd' : i ∉ done := by simpa using hnd
  have hil : i < all.size := (Array.getElem?_eq_some_iff.1 ho).1
  have hisz : i < listed.size := by rw [S.size]; exact hil
  rw [opsD_cons] at hD
  simp only [ho, hl, if_true, putK_eq] at hD
  obtain ⟨ts1, hts1, hD⟩ := guardK_spec hD
  have hag := eval_agree (a := a) (b := act ts1) hplain fun t ht => by
    rw [S.agree hb ho hpre (names_looks ht) (fun h => absurd h hnd')]
    simp [act, hts1]
  -- what is not listed and reckoned is not waited for by this one
  have hnb : ∀ j ∈ done, listed.getD j false = false → (bits.getD i 0).testBit j = false := by
    intro j hj hjun
    cases hbj : (bits.getD i 0).testBit j with
    | false => rfl
    | true =>
      have := bits_listed hb S.down j i o ho hpre hbj
      rw [this] at hjun; cases hjun
  have build : ∀ (v : SV) (sk' : List Nat) (H' : SH) (w' : World), HSat w' H' → Ext w H w' H' → (∀ j ∈ done, (j ∈ sk ↔ j ∈ sk')) → (∀ j ∈ sk', j ∈ i :: done) → (H' = H ∨ stabK P all sk (putS ts1 o.dst v) H' chk) →
      Sim P all bits w0 H0 (i :: done) (listed.setIfInBounds i true) sk' (putS ts1 o.dst v) H' (a.put o.dst v.den) w' := by
    intro v sk' H' w' hs hx hsk hskd hst
    have hl1 : (putS ts1 o.dst v).length = ts.length := by cases hd : o.dst <;> simp [putS, len_of_den hts1]
    refine ⟨fun j hj => ?_, fun j hj oj hoj hlj => ?_, hs, S.ext.trans hx, ?_, ?_, fun t' ht' => ?_, fun j hj hjun => ?_, down_set S.down ho hpre, by simpa using S.size, hskd, fun j hj oj hoj => ?_⟩
    · by_cases hij : i = j
      · subst hij; simp
      · rw [getD_set_ne false hij] at hj; exact List.mem_cons_of_mem _ (S.sub j hj)
    · rcases List.mem_cons.1 hj with rfl | hj
      · exact getD_set_eq hisz _
      · exact getD_set_true (S.louds j hj oj hoj hlj)
    · cases o.dst <;> simp [Act.put, S.defers]
    · rw [hl1, ← S.len]; cases o.dst <;> simp [Act.put]
    · rw [putS_den, put_tmps, S.len, len_of_den hts1]
      split
      · rfl
      · rw [hts1]
        refine S.tmps t' fun j hj hjun oj hoj => ht' j (List.mem_cons_of_mem _ hj) ?_ oj hoj
        have hji : i ≠ j := fun e => hnd' (e ▸ hj)
        rw [getD_set_ne false hji]; exact hjun
    · have hji : i ≠ j := fun e => by subst e; rw [getD_set_eq hisz] at hjun; cases hjun
      rw [getD_set_ne false hji] at hjun
      rcases List.mem_cons.1 hj with rfl | hj
      · exact absurd rfl hji
      have hnotb := hnb j hj hjun
      -- it does not name this one's temporary
      have hfar : ∀ oj t', all[j]? = some oj → o.dst = some t' → names all oj t' = false := by
        intro oj t' hoj hd
        cases hn : names all oj t' with
        | false => rfl
        | true =>
          simp only [hd] at hdst
          have hjl : j < all.size := (Array.getElem?_eq_some_iff.1 hoj).1
          have := List.all_eq_true.1 hdst j (List.mem_range.2 hjl)
          simp only [hoj, Bool.or_eq_true, beq_iff_eq, hn, Bool.not_true, Bool.false_eq_true, false_or, Ne.symm hji, hnotb, or_false] at this
          exact absurd (bits_done (hbd j hj) hil this) hnd'
      have g1 := Good.of_put (d := o.dst) (u := v) (hsk j hj) (fun oj hoj => (S.wf j hj oj hoj).1) hfar ((S.good j hj hjun).of_den hts1)
      rcases hst with rfl | hst
      · exact g1
      · intro oj hoj
        obtain ⟨h1, v0, h2, h3⟩ := g1 oj hoj
        refine ⟨h1, v0, h2, ?_⟩
        rcases h3 with h3 | ⟨hns, hw1, hrun⟩
        · exact .inl h3
        · refine .inr ⟨hns, hw1, ?_⟩
          cases hm : memRd oj.op with
          | false => exact fun w2 _ => hrun w2 (.inr hm)
          | true =>
            have hin : j ∈ chk := by
              have := List.all_eq_true.1 hchk j hj
              simp only [hoj, h1, hm, hnotb, Bool.false_or, Bool.not_true, Bool.or_false] at this
              exact List.contains_iff_mem.1 this
            obtain ⟨t', hd', _, _⟩ := (S.wf j hj oj hoj).2 h1
            have hns' : j ∉ sk := fun h => hns ((hsk j hj).1 h)
            cases hv : (putS ts1 o.dst v)[t']? with
            | none =>
              -- the temporary does not exist: the check would have been False
              exfalso
              have : ∀ (chk : List Nat), stabK P all sk (putS ts1 o.dst v) H' chk → j ∈ chk → False := by
                intro chk
                induction chk with
                | nil => intro _ h; simp at h
                | cons k chk ih =>
                  intro hs hm
                  rw [stabK_cons] at hs
                  rcases List.mem_cons.1 hm with rfl | hm
                  · have h1 := hs.1
                    rw [if_neg (by simpa using hns')] at h1
                    simp only [hoj, hd', hv] at h1
                  · exact ih hs.2 hm
              exact this chk hst hin
            | some v1 =>
              have hrd := stabK_of sk _ H' chk hst j hin hns' oj t' v1 hoj hd' hv
              obtain ⟨v', hveq, hr'⟩ := rdOp_run (P := P) (o := oj) hs hrd
              subst hveq
              have hv0 : v0 = v'.den := by
                have := h2 t' hd' (List.getElem?_eq_some_iff.1 hv).1
                rw [denL_getElem?, hv] at this
                exact (Option.some.inj this).symm
              intro w2 hw2
              rw [eval_act, hv0]
              exact hr' w2 (.inl (hw2.resolve_right (by simp)))
    · rcases List.mem_cons.1 hj with rfl | hj
      · rw [ho] at hoj; obtain rfl := Option.some.inj hoj
        exact ⟨hplain, fun h => by rw [hl] at h; cases h⟩
      · exact S.wf j hj oj hoj
  unfold wpOp
  simp only [ho]
  rw [hag.2, act_of_den hts1]
  rcases hD with ⟨hwt, hD⟩ | ⟨hwt, hD⟩
  · rw [if_pos hwt]
    refine .inl ?_
    have hdid := doOp_did S.sat hD
    unfold Oper.wp
    rw [hag.1, eval_act]
    rcases hdid with ⟨v, H', w', hr', h1, h2, h3, h4⟩ | ⟨f, args, hr', hc⟩
    · have hk := hK sk _ H' _ w' (build v sk H' w' h1 h2 (fun _ _ => Iff.rfl) (fun j hj => List.mem_cons_of_mem _ (S.skd j hj)) (.inr h3)) h4
      rcases hr' with hr' | ⟨hr', rfl⟩
      · rw [hr']; exact hk
      · rw [hr']; exact hk
    · rw [hr', Oper.upon_enter]
      refine hc.mono fun en w' ⟨r, H', he, h1, h2, h3, h4⟩ => ?_
      subst he
      exact hK sk _ H' _ w' (build r sk H' w' h1 h2 (fun _ _ => Iff.rfl) (fun j hj => List.mem_cons_of_mem _ (S.skd j hj)) (.inr h3)) h4
  · rw [if_neg (by simp [hwt])]
    exact hK (i :: sk) _ H _ w (build (.raw undef) (i :: sk) H w S.sat (Ext.refl _ _) (fun j hj => by
      have hji : j ≠ i := fun e => hnd' (e ▸ hj)
      simp [hji]) (fun j hj => by
        rcases List.mem_cons.1 hj with rfl | hj
        · simp
        · exact List.mem_cons_of_mem _ (S.skd j hj)) (.inl rfl)) hD

/-! ### all orders -/
def unl (all : Array Oper) (listed : Array Bool) : Nat := (List.range all.size).countP fun i => !listed.getD i false

theorem unl_set {listed : Array Bool} {i : Nat} (hi : i < all.size) (hsz : listed.size = all.size) (hun : listed.getD i false = false) : unl all (listed.setIfInBounds i true) < unl all listed := by
  have key : ∀ (l : List Nat), l.countP (fun j => !(listed.setIfInBounds i true).getD j false) ≤ l.countP (fun j => !listed.getD j false) ∧ (i ∈ l → l.countP (fun j => !(listed.setIfInBounds i true).getD j false) < l.countP (fun j => !listed.getD j false)) := by
    intro l
    induction l with
    | nil => simp
    | cons k l ih =>
      by_cases hk : i = k
      · subst hk
        have h1 : (listed.setIfInBounds i true).getD i false = true := getD_set_eq (by omega) _
        rw [List.countP_cons, List.countP_cons, h1, hun]
        simp only [Bool.not_true, Bool.not_false, Bool.false_eq_true, if_false, if_true]
        exact ⟨by omega, fun _ => by omega⟩
      · have h1 : (listed.setIfInBounds i true).getD k false = listed.getD k false := getD_set_ne false hk
        rw [List.countP_cons, List.countP_cons, h1]
        refine ⟨by omega, fun hm => ?_⟩
        have := ih.2 ((List.mem_cons.1 hm).resolve_left hk)
        omega
  exact (key _).2 (List.mem_range.2 hi)

theorem ready_all {listed : Array Bool} (hb : (List.range all.size).all (bitOk bits all) = true) (hsz : listed.size = all.size) (h : Region.ready .any all listed = []) : ∀ i, i < all.size → listed.getD i false = true := by
  intro i
  induction i using Nat.strongRecOn with
  | _ i ih =>
    intro hi
    cases hl : listed.getD i false with
    | true => rfl
    | false =>
      exfalso
      have hmem : i ∈ Region.ready .any all listed := by
        refine mem_ready.2 ⟨?_, all[i], Array.getElem?_eq_getElem hi, fun e he hbe => ?_⟩
        · have : i < listed.size := by omega
          simp [this] at hl ⊢; exact hl
        · have h1 := List.all_eq_true.1 hb i (List.mem_range.2 hi)
          simp only [bitOk, Array.getElem?_eq_getElem hi, Bool.and_eq_true] at h1
          have h2 := List.all_eq_true.1 h1.2 e (by simpa using he)
          have hlt : e.on < i := by simpa [hbe] using h2
          exact ih e.on hlt (by omega)
      rw [h] at hmem
      simp at hmem

theorem Sim.finish (S : Sim P all bits w0 H0 done listed sk ts H a w) {fr : List Nat} {rest : Plan} (hall : ∀ i, i < all.size → listed.getD i false = true) (hord : ordOk P all bits rest fr done = true) (hD : opsD P all K rest sk ts H)
    (hQ : ∀ ts H w, HSat w H → Ext w0 H0 w H → K ts H → Q .normal (act ts) w) : Q .normal a w := by
  induction rest generalizing fr with
  | alt p q ihp ihq =>
    unfold ordOk at hord
    rw [Bool.and_eq_true] at hord
    rw [opsD_alt] at hD
    exact ihp hord.1 hD.1
  | step i chk rest =>
    exfalso
    unfold ordOk at hord
    simp only [Bool.and_eq_true] at hord
    obtain ⟨hord, _⟩ := hord
    cases ho : all[i]? with
    | none => simp [ho] at hord
    | some o =>
      simp only [ho, Bool.and_eq_true, Bool.not_eq_true'] at hord
      have hnd : i ∉ done := by simpa using hord.1.1.1.1
      exact hnd (S.sub i (hall i (Array.getElem?_eq_some_iff.1 ho).1))
  | nil =>
    have ha : a = act ts := by
      cases a with
      | mk tmps defers =>
        have h1 := S.defers
        simp only at h1
        subst h1
        have ht : tmps = (denL ts).toArray := by
          apply Array.ext_getElem?
          intro t
          have h2 : ((denL ts).toArray)[t]? = (denL ts)[t]? := by simp
          rw [h2]
          refine S.tmps t fun i hi hun o ho => ?_
          have := hall i (Array.getElem?_eq_some_iff.1 ho).1
          rw [this] at hun; cases hun
        rw [ht]
        rfl
    rw [ha]
    exact hQ ts H w S.sat S.ext hD

theorem sim_any (hb : (List.range all.size).all (bitOk bits all) = true) (hQ : ∀ ts H w, HSat w H → Ext w0 H0 w H → K ts H → Q .normal (act ts) w) :
    ∀ (fuel : Nat) (done : List Nat) (listed : Array Bool) (sk : List Nat) (ts : List SV) (H : SH) (a : Act) (w : World) (rest : Plan), unl all listed ≤ fuel →
      Sim P all bits w0 H0 done listed sk ts H a w → ordOk P all bits rest [] done = true → (∀ j ∈ done, (List.range all.size).all (fun k => !(bits.getD j 0).testBit k || done.contains k) = true) → opsD P all K rest sk ts H →
      wpAny P .any all Q fuel listed a w := by
  intro fuel
  induction fuel with
  | zero =>
    intro done listed sk ts H a w rest hf S hord hbd hD
    have hall : ∀ i, i < all.size → listed.getD i false = true := by
      intro i hi
      cases hl : listed.getD i false with
      | true => rfl
      | false =>
        have := unl_set hi S.size hl
        omega
    refine ⟨?_, S.finish hall hord hD hQ⟩
    rw [List.eq_nil_iff_forall_not_mem]
    intro i hi
    obtain ⟨hun, o, ho, _⟩ := mem_ready.1 hi
    have h1 := hall i (Array.getElem?_eq_some_iff.1 ho).1
    have h2 : i < listed.size := by rw [S.size]; exact (Array.getElem?_eq_some_iff.1 ho).1
    simp [h2] at h1 hun
    rw [h1] at hun; cases hun
  | succ fuel ih =>
    intro done listed sk ts H a w rest hf S hord hbd hD
    refine ⟨fun h => S.finish (ready_all hb S.size h) hord hD hQ, fun i hi => ?_⟩
    obtain ⟨hun, o, ho, hpre⟩ := mem_ready.1 hi
    have hil : i < all.size := (Array.getElem?_eq_some_iff.1 ho).1
    have hun' : listed.getD i false = false := by
      have h2 : i < listed.size := by rw [S.size]; exact hil
      simp [h2] at hun ⊢; exact hun
    have hlt := unl_set hil S.size hun'
    have key : ∀ (rest : Plan) (fr : List Nat) (done : List Nat) (sk : List Nat) (ts : List SV) (H : SH), (i ∈ done → fr = []) → (i ∈ fr → i ∈ rest.front) →
        Sim P all bits w0 H0 done listed sk ts H a w → ordOk P all bits rest fr done = true → (∀ j ∈ done, (List.range all.size).all (fun k => !(bits.getD j 0).testBit k || done.contains k) = true) → opsD P all K rest sk ts H →
        wpOp P all Q i (wpAny P .any all Q fuel (listed.setIfInBounds i true)) a w := by
      intro rest
      induction rest with
      | nil =>
        intro fr done sk ts H _ _ S hord hbd hD
        unfold ordOk at hord
        have := List.all_eq_true.1 hord i (List.mem_range.2 hil)
        obtain ⟨o', v, ho', S', hstep⟩ := S.stepB (Q := Q) hb hi (by simpa using this)
        exact hstep _ (ih done _ sk ts H _ w .nil (by omega) S' (by unfold ordOk; exact hord) hbd hD)
      | alt p q ihp ihq =>
        intro fr done sk ts H hfd hff S hord hbd hD
        by_cases hid : i ∈ done
        · obtain rfl := hfd hid
          obtain ⟨o', v, ho', S', hstep⟩ := S.stepB (Q := Q) hb hi hid
          exact hstep _ (ih done _ sk ts H _ w (.alt p q) (by omega) S' hord hbd hD)
        · unfold ordOk at hord
          rw [Bool.and_eq_true] at hord
          rw [opsD_alt] at hD
          by_cases hp : i ∈ p.front
          · exact ihp _ done sk ts H (fun h => absurd h hid) (fun _ => hp) S hord.1 hbd hD.1
          · by_cases hq : i ∈ q.front
            · exact ihq _ done sk ts H (fun h => absurd h hid) (fun _ => hq) S hord.2 hbd hD.2
            · have hnf : i ∉ fr := fun h => by
                have := hff h
                rw [Plan.front] at this
                rcases List.mem_append.1 this with h | h
                · exact hp h
                · exact hq h
              exact ihp _ done sk ts H (fun h => absurd h hid) (fun h => by
                rcases List.mem_append.1 h with h | h
                · exact absurd h hq
                · exact absurd h hnf) S hord.1 hbd hD.1
      | step i0 chk rest ihr =>
        intro fr done sk ts H hfd hff S hord hbd hD
        by_cases hid : i ∈ done
        · obtain rfl := hfd hid
          obtain ⟨o', v, ho', S', hstep⟩ := S.stepB (Q := Q) hb hi hid
          exact hstep _ (ih done _ sk ts H _ w (.step i0 chk rest) (by omega) S' hord hbd hD)
        · have hord' := hord
          unfold ordOk at hord'
          simp only [Bool.and_eq_true] at hord'
          obtain ⟨hord', hrest⟩ := hord'
          cases ho0 : all[i0]? with
          | none => simp [ho0] at hord'
          | some o0 =>
            simp only [ho0, Bool.and_eq_true, Bool.not_eq_true'] at hord'
            obtain ⟨⟨⟨⟨hnd0, hplain0⟩, hbits0⟩, hfront⟩, _⟩ := hord'
            have hnd0' : i0 ∉ done := by simpa using hnd0
            have hbd' : ∀ j ∈ i0 :: done, (List.range all.size).all (fun k => !(bits.getD j 0).testBit k || (i0 :: done).contains k) = true := by
              intro j hj
              refine List.all_eq_true.2 fun k hk => ?_
              have hbase : (!(bits.getD j 0).testBit k || done.contains k) = true := by
                rcases List.mem_cons.1 hj with rfl | hj
                · exact List.all_eq_true.1 hbits0 k hk
                · exact List.all_eq_true.1 (hbd j hj) k hk
              cases hx : (bits.getD j 0).testBit k with
              | false => rfl
              | true =>
                rw [hx] at hbase
                simp only [Bool.not_true, Bool.false_or] at hbase ⊢
                rw [List.contains_iff_mem] at hbase ⊢
                exact List.mem_cons_of_mem _ hbase
            cases hl0 : loud P o0.op with
            | false =>
              obtain ⟨sk', ts', S', hD'⟩ := S.stepA ho0 hl0 hord hD hbd
              exact ihr [] (i0 :: done) sk' ts' H (fun _ => rfl) (fun h => by simp at h) S' hrest hbd' hD'
            | true =>
              by_cases hii : i0 = i
              · subst hii
                rw [ho] at ho0
                obtain rfl := Option.some.inj ho0
                exact S.stepC hb ho hl0 hi hord hD hbd fun sk' ts' H' a' w' S' hD' => ih _ _ sk' ts' H' a' w' rest (by omega) S' hrest hbd' hD'
              · -- what comes up now must wait for one that has not come up
                exfalso
                have hnf : i ∉ fr := fun h => by
                  have := hff h
                  simp [Plan.front] at this
                  exact hii this.symm
                rw [hl0, if_pos rfl] at hfront
                have h1 := List.all_eq_true.1 hfront i (List.mem_range.2 hil)
                simp only [Bool.or_eq_true, beq_iff_eq, List.contains_iff_mem, hid, hnf, false_or, or_false] at h1
                rcases h1 with h1 | h1
                · exact hii h1.symm
                · obtain ⟨k, hk, h2⟩ := List.any_eq_true.1 h1
                  simp only [Bool.and_eq_true, Bool.not_eq_true'] at h2
                  have hkd : k ∉ done := by simpa using h2.1
                  exact hkd (S.sub k (bits_listed hb S.down k i o ho hpre h2.2))
    exact key rest [] done sk ts H (fun _ => rfl) (fun h => by simp at h) S hord hbd hD

end sim

/-- **One walk serves every order.** -/
theorem opsD_wp {P : Program} (hm : P.follows .mixedOrders = true) {id : Nat} {all : Array Oper} {s : Sched} (hok : okSched P all s = true) {K : List SV → SH → Prop} {Q : Exit → Act → World → Prop} {w0 : World} {H0 : SH}
    (hQ : ∀ ts H w, HSat w H → Ext w0 H0 w H → K ts H → Q .normal (act ts) w) {ts : List SV} {H : SH} {w : World} (hw : HSat w H) (hx : Ext w0 H0 w H) (h : opsD P all K s.ord [] ts H) : (Code.region id all true).wp P Q (act ts) w := by
  unfold okSched at hok
  simp only [Bool.and_eq_true] at hok
  refine wp_region_any hm (sim_any (K := K) (w0 := w0) (H0 := H0) hok.1 hQ all.size [] _ [] ts H _ _ s.ord ?_ ?_ hok.2 (by simp) h)
  · unfold unl
    exact Nat.le_trans List.countP_le_length (by simp)
  · refine ⟨fun i hi => ?_, by simp, hw.drew, hx.trans (Ext.drew w H), rfl, by simp [act, denL_eq], fun t _ => by simp [act], by simp, fun j o ho hj => ?_, by simp, by simp, by simp⟩
    · rw [Array.getD_eq_getD_getElem?, Array.getElem?_replicate] at hi
      split at hi <;> simp at hi
    · rw [Array.getD_eq_getD_getElem?, Array.getElem?_replicate] at hj
      split at hj <;> simp at hj
end Go.Sy
