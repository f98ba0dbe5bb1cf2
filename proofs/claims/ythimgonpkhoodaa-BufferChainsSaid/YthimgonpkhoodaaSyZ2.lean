/- SY, part Z2: copy; room made by append; do two slices overlap; interface values and their methods. Own work. -/
import Derived.Test.YthimgonpkhoodaaSyZ
import Derived.Lib.Overlaps
namespace Go.Sy
open Go.RowKit
set_option linter.unusedVariables false
set_option linter.unusedSimpArgs false
theorem den_pos (i : Nat) (z : Bool) (b : Bs) (w j c : Nat) {l : Nat} (h : 0 < l) : (SV.sl i z b w j l c).den = .slice (some ⟨b.n, b.o + j * w, none⟩) l c := by
  simp only [SV.den, nilB_pos z c h, cond_false]
/-- copy(x, y), where something is copied. -/
theorem copy_ob {P : Program} {o : Oper} {e : Operand → SV} {H : SH} {K : SV → SH → Prop} {α : Type} {t tx et : TypeId} {x y : Operand} {sz i j l c i2 j2 l2 c2 : Nat} {z z2 z' : Bool} {b b2 : Bs} {c' : Nat} {enc : α → List SV} {L : List α} {bk2 : Blk} (n : Nat) (news : List α)
    (ho : o.op = .call ⟨.builtin .copy, #[x, y], #[t, tx]⟩) (hu : P.underlying t = some (.slice et)) (hs : szOf P et = some sz) (hx : e x = .sl i z b sz j l c) (hi : H[i]? = some (b, .vec z' c' enc sz L)) (hy : e y = .sl i2 z2 b2 sz j2 l2 c2) (hi2 : H[i2]? = some (b2, bk2))
    (hn : n = min l2 l) (h0 : 0 < n) (hz : 0 < sz) (hsrc : (bk2.cells.drop (j2 * sz)).take (n * sz) = news.flatMap enc) (hnl : news.length = n) (hnok : ∀ y ∈ news, (enc y).length = sz) (hone : (news.flatMap enc).all SV.one = true) (hle : j + n ≤ L.length)
    (h : K (.int .i64 n) (H.set i (b, .vec z' c' enc sz (L.take j ++ news ++ L.drop (j + n))))) : OpOb P o e H K := by
  refine ⟨fun w hw => ?_⟩
  have hok : ∀ y ∈ L, (enc y).length = sz := (hw.blk hi rfl).1.1
  have hfl : (news.flatMap enc).length = n * sz := by rw [flatMap_length enc sz news hnok, hnl]
  have hle2 : j2 * sz + n * sz ≤ bk2.cells.length := by
    have := congrArg List.length hsrc
    rw [hfl, List.length_take, List.length_drop] at this
    have : 0 < n * sz := Nat.mul_pos h0 hz
    omega
  have hLl : (L.flatMap enc).length = L.length * sz := flatMap_length enc sz L hok
  have hjn : j * sz + n * sz ≤ L.length * sz := by rw [← Nat.add_mul]; exact Nat.mul_le_mul_right _ hle
  have hok' : ∀ y ∈ L.take j ++ news ++ L.drop (j + n), (enc y).length = sz := by
    intro y hy
    simp only [List.mem_append] at hy
    rcases hy with (hy | hy) | hy
    · exact hok y (List.mem_of_mem_take hy)
    · exact hnok y hy
    · exact hok y (List.mem_of_mem_drop hy)
  have hset := flatMap_setRows enc sz L news hok hnok j (by omega)
  rw [hnl] at hset
  obtain ⟨w', h1, h2, h3⟩ := st_entry (P := P) hw hi (bk' := .vec z' c' enc sz (L.take j ++ news ++ L.drop (j + n))) ⟨rfl, rfl, rfl, hok', by simp; omega, by rw [hset, setMany_length]⟩ (vs := news.flatMap enc) (off := j * sz) hset (by show j * sz + _ ≤ (L.flatMap enc).length; omega) hone (.inl (by
    intro hh
    rw [hh] at hfl
    have : 0 < n * sz := Nat.mul_pos h0 hz
    simp at hfl; omega))
  refine ⟨_, _, w', .inl ?_, h2, h3, h⟩
  have hrd := hw.reads hi2
  have hload : (loadCells ⟨b2.n, b2.o + j2 * sz, none⟩ (n * sz)).run P w = .ok (denL (news.flatMap enc)).toArray w := by
    have := run_loadCells (P := P) (off := j2 * sz) hrd (n * sz) 0 #[] (by omega)
    rw [Nat.add_zero, hsrc] at this
    simpa [loadCells] using this
  have hr : (Builtin.copy_ #[t, tx] o.type #[(e x).den, (e y).den]).run P w = .ok (.int .i64 n) w' := by
    rw [hx, hy, den_pos i z b sz j c (show 0 < l by omega), den_pos i2 z2 b2 sz j2 c2 (show 0 < l2 by omega)]
    have hmin : Nat.min l2 l = n := hn.symm
    simp [Builtin.copy_, run_underlying hu, Builtin.lenOf, run_sizeOf hs, Builtin.firstCells, hmin, hload, h1, Result.andThen, goInt]
  have h1 : execOp (fun x => (e x).den) o = (do pure (.value (← Builtin.copy_ #[t, tx] o.type #[(e x).den, (e y).den])) : Sem Next) := by
    have hargs : (#[x, y] : Array Operand).map (fun x => (e x).den) = #[(e x).den, (e y).den] := by simp
    rw [← hargs]
    simp only [execOp, ho]
    rfl
  rw [h1]
  exact (bind_run' hr).trans rfl
/-- append(s, make(..)...), where there is no room: numbers. -/
theorem appendZ_ob {P : Program} {o : Oper} {e : Operand → SV} {H : SH} {K : SV → SH → Prop} {t tx et : TypeId} {x y : Operand} {i l c m : Nat} {z z' : Bool} {b : Bs} {c' : Nat} {L : List Int} {k : IntKind} {inf : TypeInfo}
    (ho : o.op = .call ⟨.builtin .append, #[x, y], #[t, tx]⟩) (hu : P.underlying t = some (.slice et)) (htx : P.underlying tx = some (.int .i64)) (hs : szOf P et = some 1) (hz : zrOf P et = some (.int k 0)) (hinf : P.info? et = some inf) (hby : inf.bytes = 8)
    (hx : e x = .sl i z b 1 0 l c) (hi : H[i]? = some (b, .vec z' c' (encInt k) 1 L)) (hl : l ≤ L.length) (hy : e y = .int .i64 m) (hm : 0 < m) (hgrow : c < l + m) (hbig : (l + m + (l + m) / 4 + 192) * 8 ≤ 281474976710656)
    (h : ∀ (b2 c2 : Nat), l + m ≤ c2 → K (.sl H.length false ⟨b2, 0⟩ 1 0 (l + m) c2) (H ++ [(⟨b2, 0⟩, .vec false c2 (encInt k) 1 (L.take l ++ List.replicate m 0))])) : OpOb P o e H K := by
  refine ⟨fun w hw => ?_⟩
  let c2 := Question.cut (.appendCap (l + m) c et) (w.tape w.drawn (.appendCap (l + m) c et))
  have hcge : l + m ≤ c2 := by simp [c2, Question.cut]
  have hcle : c2 ≤ 9223372036854775807 := by
    have hm' : ∀ t : Nat, l + m + t % (2 ^ 63 - (l + m)) ≤ 9223372036854775807 := fun t => by
      have := Nat.mod_lt t (show 0 < 2 ^ 63 - (l + m) by omega)
      omega
    exact hm' _
  have hrd := hw.reads hi
  have hLl : (L.flatMap (encInt k)).length = L.length := by rw [flatMap_length (encInt k) 1 L (fun _ _ => rfl), Nat.mul_one]
  have htk : (L.flatMap (encInt k)).take l = (L.take l).flatMap (encInt k) := by
    have := flatMap_take (encInt k) 1 L (fun _ _ => rfl) l
    rwa [Nat.mul_one] at this
  have hold : ∀ w1, HSat w1 H → (Builtin.firstCells 1 l (e x).den).run P w1 = .ok (denL ((L.take l).flatMap (encInt k))).toArray w1 := by
    intro w1 hw1
    rw [hx]
    by_cases h0 : 0 < l
    · rw [den_pos i z b 1 0 c h0]
      have := run_loadCells (P := P) (off := 0) (hw1.reads hi) l 0 #[] (by show 0 + 0 + l ≤ (L.flatMap (encInt k)).length; omega)
      simp only [Nat.zero_add, List.drop_zero, Nat.add_zero] at this
      have hb' : (Blk.vec z' c' (encInt k) 1 L).cells.take l = (L.take l).flatMap (encInt k) := htk
      rw [hb'] at this
      simpa [Builtin.firstCells, loadCells] using this
    · have h0 : l = 0 := by omega
      subst h0
      simp only [SV.den]
      cases nilB z 0 c with
      | false => simp [Builtin.firstCells, loadCells, loadCellsFrom, denL, Sem.run]
      | true => cases b.e.a <;> simp [Builtin.firstCells, loadCells, loadCellsFrom, denL, Sem.run]
  have hzero : ∀ q : Nat, (Array.range (q * 1)).map (fun i => (Value.int k 0).cells[i % 1]!) = (denL ((List.replicate q (0 : Int)).flatMap (encInt k))).toArray := by
    intro q
    apply Array.ext'
    have : ∀ n : Nat, denL ((List.replicate n (0 : Int)).flatMap (encInt k)) = List.replicate n (Value.int k 0) := by
      intro n
      induction n with
      | zero => rfl
      | succ n ih => rw [List.replicate_succ, List.flatMap_cons, denL_append, ih]; rfl
    rw [this]
    apply List.ext_getElem
    · simp
    · intro n h1 h2
      simp [Value.cells, Nat.mod_one]
  have hsl : ∃ base : Option Addr, (e x).den = .slice base l c := by
    rw [hx]
    simp only [SV.den]
    cases hzz : nilB z l c with
    | false => exact ⟨_, rfl⟩
    | true => obtain ⟨_, rfl, rfl⟩ := nilB_true hzz; exact ⟨_, rfl⟩
  obtain ⟨base, hbase⟩ := hsl
  let cs : List SV := (L.take l).flatMap (encInt k) ++ (List.replicate m (0 : Int)).flatMap (encInt k) ++ (List.replicate (c2 - (l + m)) (0 : Int)).flatMap (encInt k)
  have hcs : cs.length = c2 := by
    have hf : ∀ l : List Int, (l.flatMap (encInt k)).length = l.length := fun l => by rw [flatMap_length (encInt k) 1 l (fun _ _ => rfl), Nat.mul_one]
    simp only [cs, List.length_append, hf, List.length_take, List.length_replicate]
    omega
  have hsame : ∀ q, q < w.heap.size → ({ w with drawn := w.drawn + 1, heap := w.heap.push (.cells (denL cs).toArray et) } : World).heap[q]? = w.heap[q]? := fun q hq => by
    show (w.heap.push _)[q]? = _
    rw [Array.getElem?_push, if_neg (by omega)]
  have hat : BlkAt { w with drawn := w.drawn + 1, heap := w.heap.push (.cells (denL cs).toArray et) } (⟨w.heap.size, 0⟩, .vec false c2 (encInt k) 1 (L.take l ++ List.replicate m 0)) := by
    refine ⟨⟨fun _ _ => rfl, by simp; omega, hcle⟩, fun _ => ⟨[], (List.replicate (c2 - (l + m)) (0 : Int)).flatMap (encInt k), rfl, ?_, ?_⟩⟩
    · have hf : ∀ l : List Int, (l.flatMap (encInt k)).length = l.length := fun l => by rw [flatMap_length (encInt k) 1 l (fun _ _ => rfl), Nat.mul_one]
      rw [hf, hf]; simp; omega
    · simp only [List.nil_append, List.flatMap_append]
      exact cells_push_at w cs et
  refine ⟨_, _, _, .inl ?_, hw.add (p' := (⟨w.heap.size, 0⟩, .vec false c2 (encInt k) 1 (L.take l ++ List.replicate m 0))) ((entry_atom rfl).2 hat) hsame (fun q hq => ?_), Ext.add rfl rfl rfl (by simp) hsame (fun q hq => ?_), h w.heap.size c2 hcge⟩
  · have h1 : execOp (fun x => (e x).den) o = (do pure (.value (← Builtin.append_ #[t, tx] o.type #[(e x).den, (e y).den])) : Sem Next) := by
      have hargs : (#[x, y] : Array Operand).map (fun x => (e x).den) = #[(e x).den, (e y).den] := by simp
      rw [← hargs]
      simp only [execOp, ho]
      rfl
    rw [h1]
    refine (bind_run' (a := (SV.sl H.length false ⟨w.heap.size, 0⟩ 1 0 (l + m) c2).den) (w' := { w with drawn := w.drawn + 1, heap := w.heap.push (.cells (denL cs).toArray et) }) ?_).trans rfl
    have hden : (SV.sl H.length false ⟨w.heap.size, 0⟩ 1 0 (l + m) c2).den = .slice (some ⟨w.heap.size, 0, none⟩) (l + m) c2 := by simp [SV.den, nilB_false]
    rw [hden, hbase, hy]
    have hold1 := hold { w with drawn := w.drawn + 1 } hw.drew
    rw [hbase] at hold1
    have hmw : IntKind.i64.wrap (m : Int) = m := wrap_i64 (by omega)
    have hm0 : ¬ ((m : Int) < 0) := by omega
    have hm1 : ¬ (281474976710656 < (m : Int) * ((8 : Nat) : Int)) := by omega
    have hbytes : ∀ w', (typeInfo et).run P w' = .ok inf w' := fun w' => by simp [typeInfo, program, bind, Sem.bind, Sem.run, hinf, pure]
    have hnot : ¬ (l + m ≤ c) := by omega
    have hz1 : ¬ (IntKind.i64.max < ((l + m : Nat) : Int)) := by rw [i64max]; omega
    have hfit : Builtin.nextslicecap (l + m) c * 8 ≤ 281474976710656 := Nat.le_trans (Nat.mul_le_mul_right _ (nextcap_le (need := l + m) (old := c) (by omega))) hbig
    have hz2 : ¬ (281474976710656 < Builtin.nextslicecap (l + m) c * 8) := by omega
    have hask : ∀ m w', (askRoom m).run P w' = .ok () w' := fun m w' => by unfold askRoom; split <;> rfl
    have hchoose : (choose (.appendCap (l + m) c et)).run P w = .ok c2 { w with drawn := w.drawn + 1 } := by
      simp [choose, Sem.run, Question.forced, c2]
    have hnew : ∀ (o : Obj) w', (newObj o).run P w' = .ok w'.heap.size { w' with heap := w'.heap.push o } := fun o w' => rfl
    have hmz : ¬ (m * 1 = 0) := by omega
    have hzr : ∀ w', (zeroValue et).run P w' = .ok (.int k 0) w' := fun w' => run_zero hz w'
    have hasI : ∀ w', (asInt (SV.int .i64 (m : Int)).den).run P w' = .ok (m : Int) w' := fun w' => rfl
    have hcells : ∀ q, Builtin.zeroCells (Value.int k 0).cells q = (denL ((List.replicate q (0 : Int)).flatMap (encInt k))).toArray := fun q => hzero q
    have hcsd : (denL ((L.take l).flatMap (encInt k))).toArray ++ (denL ((List.replicate m (0 : Int)).flatMap (encInt k))).toArray ++ (denL ((List.replicate (c2 - (l + m)) (0 : Int)).flatMap (encInt k))).toArray = (denL cs).toArray := by
      simp only [cs, denL_append]
      simp
    simp only [Builtin.append_, List.getElem?_toArray, List.getElem?_cons_zero, List.getElem?_cons_succ, Sem.run_bind, run_underlying hu, run_underlying htx, run_sizeOf hs, Result.andThen, Sem.run_pure, if_true, hasI, hmw, hm0, if_false, hbytes, hby, Sem.run_ite,
      hnot, gt_iff_lt, hm1, hz2, hz1, false_and, Nat.reducePow, Int.reducePow, hchoose, hask, hold1, hzr, newRow, hnew, hmz, Int.toNat_natCast, Bool.not_true, Bool.false_eq_true, hcells, hcsd]
  · rw [solid_atom rfl] at hq; exact Nat.le_of_eq hq.2
  · rw [own_atom rfl] at hq; exact Nat.le_of_eq hq.2
/-- slices.overlaps of two blocks, where no cell that is looked at is frozen. -/
theorem run_overlaps_any {P : Program} (w : World) (tS tR et : TypeId) (hu : P.underlying tS = some (.slice et)) {sz l1 l2 c1 c2 : Nat} {C : Bool} (hs : szOf P et = some sz) (a b : Addr) (h1 : 0 < l1) (h2 : 0 < l2) (hsz : 0 < sz) (hne : a.block ≠ b.block) (hfa : w.frozen? a = false)
    (hv1 : (noView a).run P w = .ok () w) (hv2 : (noView b).run P w = .ok () w) (hone : (mayBeOne a b).run P w = .ok C w) :
    ∃ (r : Bool) (w' : World), (Extern.SlicesOverlaps.overlaps #[tS, tS] #[tR] #[.slice (some a) l1 c1, .slice (some b) l2 c2]).run P w = .ok (.bool r) w' ∧ (w' = w ∨ w' = { w with drawn := w.drawn + 1 }) := by
  have h00 : ¬ (l1 = 0 ∨ l2 = 0 ∨ sz = 0) := by omega
  have hnb : (a.block != b.block) = true := by simpa using hne
  have hnb' : (a.block == b.block) = false := by simpa using hne
  delta Extern.SlicesOverlaps.overlaps
  conv => arg 1; intro r; arg 1; intro w'; lhs; lhs; arg 2; delta Extern.SlicesOverlaps.overlaps.match_4; simp only [Array.getLit]
  rw [dif_pos (show (#[Value.slice (some a) l1 c1, Value.slice (some b) l2 c2] : Array Value).size = 2 from rfl)]
  delta Extern.SlicesOverlaps.overlaps._sparseCasesOn_4
  dsimp only [List.getElem_toArray, List.getElem_cons_zero, List.getElem_cons_succ]
  have hch : ∃ a, (choose (.extern "sameAddr.stringBytes" 2)).run P w = .ok a { w with drawn := w.drawn + 1 } := ⟨_, rfl⟩
  obtain ⟨q, hq⟩ := hch
  cases C with
  | false =>
    refine ⟨false, w, ?_, .inl rfl⟩
    simp [run_underlying hu, run_sizeOf hs, h00, hnb, hnb', Go.run_frozen, hfa, hv1, hv2, hone, Result.andThen]
  | true =>
    refine ⟨q == 1, _, ?_, .inr rfl⟩
    simp only [List.getElem?_toArray, List.getElem?_cons_zero, Sem.run_bind, run_underlying hu, run_sizeOf hs, h00, if_false, Go.run_frozen, hfa, Result.andThen, Bool.and_false, Bool.false_and, Bool.false_eq_true, hnb, if_true, hv1, hv2, hone, hq, Sem.run_pure, Sem.run_ite]
/-- slices.overlaps, where the first has its block for itself: no one says. -/
theorem overlaps_ob {P : Program} {f : FuncId} {fn : Func} {H : SH} {K : SV → SH → Prop} {tS tR et : TypeId} {sz i1 i2 j2 l1 l2 c1 c2 : Nat} {z1 z2 : Bool} {b1 b2 : Bs} {cs : List SV} {α : Type} {z' : Bool} {c' : Nat} {enc : α → List SV} {wd : Nat} {L : List α}
    (hf : P.funcs[f]? = some fn) (hname : (fn.name == "runtime.NumGoroutine") = false) (hb : fn.body.isNone = true) (hn : Extern.findNext fn = none) (he : Extern.find fn = some (Extern.SlicesOverlaps.overlaps #[tS, tS] #[tR])) (hu : P.underlying tS = some (.slice et)) (hs : szOf P et = some sz)
    (hi1 : H[i1]? = some (b1, .lit cs)) (hi2 : H[i2]? = some (b2, .vec z' c' enc wd L)) (hne : i1 ≠ i2) (h1 : 0 < l1) (h2 : 0 < l2) (hsz : 0 < sz) (hcs : 0 < cs.length) (hown : ¬ (z' = true ∧ c' = 0)) (hL : 0 < L.length) (hwd : 0 < wd)
    (h : ∀ r : Bool, K (.bool r) H) : FnOb P f [.sl i1 z1 b1 sz 0 l1 c1, .sl i2 z2 b2 sz j2 l2 c2] H K :=
  FnOb.ext fun w hw => by
    have hblk := (hw.blk hi1 rfl).2
    obtain ⟨h0, hcell⟩ := hblk
    have hv := (hw.blk hi2 rfl)
    obtain ⟨⟨hok, _⟩, hvv⟩ := hv
    obtain ⟨pre, post, hp1, hp2, hcell2⟩ := hvv hown
    have hap : b1.n ≠ b2.n := by
      have := hw.sep i1 i2 _ _ hne hi1 hi2 b1.n
      intro hh
      refine this.1 ⟨(solid_atom rfl).2 ⟨.inl trivial, rfl⟩, (own_atom rfl).2 ⟨hown, hh.symm⟩⟩
    obtain ⟨e1, fz1, hh1, hf1⟩ := id hcell
    obtain ⟨e2, fz2, hh2, hf2⟩ := id hcell2
    have hfa : w.frozen? ⟨b1.n, b1.o + 0 * sz, none⟩ = false := by
      rw [h0, Nat.zero_mul, Nat.add_zero]
      exact cells_thaw hcell hcs
    have hs1 : w.shape? b1.n = some (e1, cs.length) := by simp [World.shape?, hh1, denL_length]
    have hs2 : w.shape? b2.n = some (e2, (pre ++ L.flatMap enc ++ post).length) := by simp only [World.shape?, hh2]; simp [denL_length]
    have hk2 : (pre ++ L.flatMap enc ++ post).length ≠ 0 := by
      have := flatMap_length enc wd L hok
      have h3 : 0 < L.length * wd := Nat.mul_pos hL hwd
      simp only [List.length_append]
      omega
    have hk1 : cs.length ≠ 0 := by omega
    have hstr : ∀ (a : Addr) (tt : TypeId) (n : Nat), w.shape? a.block = some (tt, n) → ∃ B, (stringish a).run P w = .ok B w := by
      intro a tt n hsh
      unfold stringish
      cases hfz : w.frozen? a with
      | true => exact ⟨true, by simp [Go.run_frozen, hfz, Result.andThen]⟩
      | false => exact ⟨_, by simp [Go.run_frozen, hfz, Go.run_shape, hsh, Result.andThen]; rfl⟩
    obtain ⟨A, hA⟩ := hstr ⟨b1.n, b1.o + 0 * sz, none⟩ e1 cs.length hs1
    obtain ⟨B, hB⟩ := hstr ⟨b2.n, b2.o + j2 * sz, none⟩ e2 _ hs2
    have hone : (mayBeOne ⟨b1.n, b1.o + 0 * sz, none⟩ ⟨b2.n, b2.o + j2 * sz, none⟩).run P w = .ok (A && B) w := by
      obtain ⟨n1, hn1⟩ : ∃ n1, cs.length = n1 + 1 := ⟨cs.length - 1, by omega⟩
      obtain ⟨n2, hn2⟩ : ∃ n2, (pre ++ L.flatMap enc ++ post).length = n2 + 1 := ⟨(pre ++ L.flatMap enc ++ post).length - 1, by omega⟩
      rw [hn1] at hs1
      rw [hn2] at hs2
      unfold mayBeOne
      simp only [Sem.run_bind, hA, hB, Result.andThen, Sem.run_pure, Go.run_shape, hs1, hs2]
      cases A <;> cases B <;> simp [Go.run_shape, hs1, hs2, Result.andThen]
    have hview : ∀ (a : Addr) (tt : TypeId) (n : Nat), w.shape? a.block = some (tt, n) → (noView a).run P w = .ok () w := by
      intro a tt n hsh
      unfold noView viewAt
      simp [Go.run_shape, hsh, Result.andThen]
    have hv1 := hview ⟨b1.n, b1.o + 0 * sz, none⟩ e1 cs.length hs1
    have hv2 := hview ⟨b2.n, b2.o + j2 * sz, none⟩ e2 _ hs2
    have hnb : ((b1.n : Nat) != b2.n) = true := by simpa using hap
    have hnb' : ((b1.n : Nat) == b2.n) = false := by simpa using hap
    have hrun := run_overlaps_any (c1 := c1) (c2 := c2) w tS tR et hu hs ⟨b1.n, b1.o + 0 * sz, none⟩ ⟨b2.n, b2.o + j2 * sz, none⟩ h1 h2 hsz hap hfa hv1 hv2 hone
    obtain ⟨r, w', hr, hw'⟩ := hrun
    have hargs : (denL [SV.sl i1 z1 b1 sz 0 l1 c1, SV.sl i2 z2 b2 sz j2 l2 c2]).toArray = #[.slice (some ⟨b1.n, b1.o + 0 * sz, none⟩) l1 c1, .slice (some ⟨b2.n, b2.o + j2 * sz, none⟩) l2 c2] := by
      simp only [denL, den_pos _ _ _ _ _ _ h1, den_pos _ _ _ _ _ _ h2]
    have hcall : (callFunc f (denL [SV.sl i1 z1 b1 sz 0 l1 c1, SV.sl i2 z2 b2 sz j2 l2 c2]).toArray).run P w = .ok (.value (.bool r)) w' := by
      rw [hargs, run_callFunc_extern hf hname hb hn he, hr]
      rfl
    rcases hw' with rfl | rfl
    · exact ⟨.bool r, H, w', hcall, hw, Ext.refl _ _, h r⟩
    · exact ⟨.bool r, H, _, hcall, hw.drew, Ext.drew _ _, h r⟩
/-- A slice of single cells, its room too; what its cells are is known. -/
theorem vec_whole2 {w : World} {b : Bs} {z : Bool} {c : Nat} {α : Type} {enc : α → List SV} {l : List α} (h : EntryAt w (b, .vec z c enc 1 l)) :
    ∃ r : List SV, (l.flatMap enc ++ r).length = c ∧ EntryAt w (b, .vec z c encV 1 (l.flatMap enc ++ r)) ∧ (∀ k, Solid ((b, .vec z c encV 1 (l.flatMap enc ++ r)) : Bs × Blk) k → Solid ((b, .vec z c enc 1 l) : Bs × Blk) k) ∧ (∀ k, Own ((b, .vec z c encV 1 (l.flatMap enc ++ r)) : Bs × Blk) k → Own ((b, .vec z c enc 1 l) : Bs × Blk) k) := by
  have hb : BlkAt w (b, .vec z c enc 1 l) := h
  obtain ⟨⟨hok, hc⟩, hh⟩ := hb
  have hfl : (l.flatMap enc).length = l.length := by rw [flatMap_length enc 1 l hok, Nat.mul_one]
  have hsol : ∀ (l' : List SV) k, Solid ((b, .vec z c encV 1 l') : Bs × Blk) k → Solid ((b, .vec z c enc 1 l) : Bs × Blk) k := fun l' k hk => by
    refine ⟨?_, hk.2⟩
    rcases hk.1 with h | h
    · exact .inl h
    · cases h.1
  by_cases hz : z = true ∧ c = 0
  · have hl0 : l = [] := List.length_eq_zero_iff.1 (by omega)
    subst hl0
    refine ⟨[], by rw [hz.2]; rfl, ⟨⟨by simp, by simp; omega⟩, fun hne => absurd hz hne⟩, hsol _, fun k hk => hk⟩
  · obtain ⟨pre, post, h1, h2, h3⟩ := hh hz
    rw [hfl, Nat.mul_one] at h2
    refine ⟨post.take (c - l.length), ?_, ⟨⟨fun _ _ => rfl, ?_⟩, fun _ => ⟨pre, post.drop (c - l.length), h1, ?_, ?_⟩⟩, hsol _, fun k hk => hk⟩
    · rw [List.length_append, hfl, List.length_take]; omega
    · rw [List.length_append, hfl, List.length_take]; omega
    · rw [flat_V, List.length_append, hfl, List.length_take, List.length_drop]; omega
    · rw [flat_V]
      have e : pre ++ (l.flatMap enc ++ post.take (c - l.length)) ++ post.drop (c - l.length) = pre ++ l.flatMap enc ++ post := by
        simp only [List.append_assoc, List.take_append_drop]
      rw [e]; exact h3
theorem FnOb.whole2 {P : Program} {f : FuncId} {args : List SV} {H : SH} {K : SV → SH → Prop} (i : Nat) {b : Bs} {z : Bool} {c : Nat} {α : Type} {enc : α → List SV} {l : List α} (hi : H[i]? = some (b, .vec z c enc 1 l))
    (h : ∀ r : List SV, (l.flatMap enc ++ r).length = c → FnOb P f args (H.set i (b, .vec z c encV 1 (l.flatMap enc ++ r))) K) : FnOb P f args H K :=
  FnOb.startX (X := {r : List SV // (l.flatMap enc ++ r).length = c}) (H' := fun x => H.set i (b, .vec z c encV 1 (l.flatMap enc ++ x.1))) (fun w hw => by
    obtain ⟨r, h1, h2, h3, h4⟩ := vec_whole2 (hw.at_ _ (List.mem_of_getElem? hi))
    exact ⟨⟨r, h1⟩, hw.one i hi ⟨h2, h3, h4⟩⟩) fun x => h x.1 x.2
end Go.Sy
