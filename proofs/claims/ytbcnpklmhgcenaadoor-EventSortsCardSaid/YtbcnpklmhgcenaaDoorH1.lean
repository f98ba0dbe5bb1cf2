/- Lists of matches that came in: windows; a match compared out of them. Own work. -/
import Derived.Test.YtbcnpklmhgcenaaDoorE3
import Derived.Test.YtbcnpklmhgcenaaDoorE6w
import Derived.Test.YtbcnpklmhgcenaaDoorMq
namespace Go.Proofs.YtbcnpklmhgcenaaDoor
open Go Go.Sy Go.Sp Go.Ev Go.Lib
set_option maxRecDepth 100000
set_option linter.unusedVariables false
set_option linter.unusedSimpArgs false
set_option maxHeartbeats 4000000
def encM1 (m : WM) : List SV := [.str m.key, .sl 1 m.s.z m.s.b 1 0 m.s.l.length m.s.c]
abbrev headsW (L : List WM) : Bs × Blk := (⟨0, 0⟩, .wins (L.map (memA 0)))
abbrev rowsW (L : List WM) : Bs × Blk := (⟨0, 0⟩, .wins (L.flatMap fun m => m.s.l.map (Row.win (encInt .i64) 1)))
/-- Some of many windows are looked at. -/
theorem Tells.looks {H : SH} (i : Nat) {b b' : Bs} {F F' : SH} (hi : H[i]? = some (b, .wins F)) (hF : ∀ a ∈ F', a ∈ F) : Tells H (H ++ [(b', .wins F')]) := by
  intro w hw
  have hFw : ∀ a ∈ F, BlkAt w a ∧ a.2.isWin = true := hw.at_ _ (List.mem_of_getElem? hi)
  have hno : ∀ k, ¬ Own ((b', .wins F') : Bs × Blk) k := fun k hk => hk
  have hsol : ∀ k, Solid ((b', .wins F') : Bs × Blk) k → Solid ((b, .wins F) : Bs × Blk) k := fun k ⟨a, ha, h⟩ => ⟨a, hF a ha, h⟩
  have hget : ∀ (n : Nat) (q : Bs × Blk), (H ++ [(b', .wins F')])[n]? = some q → q = (b', .wins F') ∨ H[n]? = some q := by
    intro n q hq
    rw [List.getElem?_append] at hq
    split at hq
    · exact .inr hq
    · refine .inl ?_
      have := List.mem_of_getElem? hq
      simpa using this
  have key : ∀ n q, H[n]? = some q → ApartE (b', .wins F') q := fun n q hn k => ⟨fun ⟨x, y⟩ => by
    by_cases hni : n = i
    · subst hni
      rw [hi] at hn
      obtain rfl := Option.some.inj hn
      exact y
    · exact (hw.sep i n _ q (fun e => hni e.symm) hi hn k).1 ⟨hsol k x, y⟩, fun ⟨x, _⟩ => hno k x⟩
  refine ⟨⟨fun n m p q hnm hn hm => ?_, fun q hq => ?_⟩, fun k ⟨q, hq, ho⟩ => ?_⟩
  · rcases hget n p hn with rfl | n2
    · rcases hget m q hm with rfl | m2
      · exact fun k => ⟨fun ⟨_, y⟩ => hno k y, fun ⟨x, _⟩ => hno k x⟩
      · exact key m q m2
    · rcases hget m q hm with rfl | m2
      · exact (key n p n2).symm
      · exact hw.sep n m p q hnm n2 m2
  · obtain ⟨n, hn⟩ := List.mem_iff_getElem?.1 hq
    rcases hget n q hn with rfl | n2
    · exact fun a ha => hFw a (hF a ha)
    · exact hw.at_ q (List.mem_of_getElem? n2)
  · obtain ⟨n, hn⟩ := List.mem_iff_getElem?.1 hq
    rcases hget n q hn with rfl | n2
    · exact absurd ho (hno k)
    · exact ⟨q, List.mem_of_getElem? n2, ho⟩
theorem get_left {H : SH} {i : Nat} {p : Bs × Blk} (G : SH) (h : H[i]? = some p) : (H ++ G)[i]? = some p := by
  rw [List.getElem?_append_left (List.getElem?_eq_some_iff.1 h).1]; exact h
theorem look2 {H : SH} {L : List WM} {a : WM} (h1 : H[1]? = some (headsW L)) (h2 : H[2]? = some (rowsW L)) (ha : a ∈ L) : Tells H (H ++ [memA 0 a, memB ⟨0, 0⟩ a]) := by
  have t1 := Tells.look 1 h1 (List.mem_map_of_mem (f := memA 0) ha)
  have t2 := Tells.looks (b' := ⟨0, 0⟩) (F' := a.s.l.map (Row.win (encInt .i64) 1)) 2 (get_left [memA 0 a] h2) (fun x hx => List.mem_flatMap.2 ⟨a, ha, hx⟩)
  have := t1.trans t2
  rwa [List.append_assoc] at this
theorem look4 {H : SH} {L : List WM} {a b : WM} (h1 : H[1]? = some (headsW L)) (h2 : H[2]? = some (rowsW L)) (ha : a ∈ L) (hb : b ∈ L) : Tells H (H ++ [memA 0 a, memB ⟨0, 0⟩ a, memA 0 b, memB ⟨0, 0⟩ b]) := by
  have := (look2 h1 h2 ha).trans (look2 (get_left _ h1) (get_left _ h2) hb)
  rwa [List.append_assoc] at this
/-- Put in its place. -/
def ins (m : WM) : List WM → List WM
  | [] => [m]
  | o :: O => if 0 < cmpM o.pl m.pl then m :: o :: O else o :: ins m O
theorem ins_perm (m : WM) : ∀ O, (ins m O).Perm (m :: O)
  | [] => List.Perm.refl _
  | o :: O => by
    unfold ins
    split
    · exact List.Perm.refl _
    · exact ((ins_perm m O).cons o).trans (List.Perm.swap m o O)
abbrev le (a b : WM) : Prop := cmpM a.pl b.pl ≤ 0
theorem ins_sorted (m : WM) : ∀ O : List WM, O.Pairwise le → (ins m O).Pairwise le
  | [], _ => List.pairwise_singleton _ _
  | o :: O, h => by
    obtain ⟨h1, h2⟩ := List.pairwise_cons.1 h
    unfold ins
    split
    · rename_i hc
      have a1 := cmpM_pre.anti o.pl m.pl
      refine List.pairwise_cons.2 ⟨fun x hx => ?_, h⟩
      rcases List.mem_cons.1 hx with rfl | hx
      · show cmpM _ _ ≤ 0; omega
      · exact cmpM_pre.tr _ _ _ (by omega) (h1 x hx)
    · rename_i hc
      refine List.pairwise_cons.2 ⟨fun x hx => ?_, ins_sorted m O h2⟩
      rcases List.mem_cons.1 ((ins_perm m O).mem_iff.1 hx) with rfl | hx
      · show cmpM _ _ ≤ 0; omega
      · exact h1 x hx
def insAll (I : List WM) : List WM := I.foldl (fun O m => ins m O) []
theorem insAll_snoc (I : List WM) (m : WM) : insAll (I ++ [m]) = ins m (insAll I) := by unfold insAll; rw [List.foldl_append]; rfl
theorem insAll_sorted (I : List WM) : (insAll I).Pairwise le := by
  have aux : ∀ (I O : List WM), O.Pairwise le → (I.foldl (fun O m => ins m O) O).Pairwise le := by
    intro I
    induction I with
    | nil => intro O h; exact h
    | cons m I ih => intro O h; exact ih _ (ins_sorted m O h)
  exact aux I [] List.Pairwise.nil
theorem insAll_perm (I : List WM) : (insAll I).Perm I := by
  have aux : ∀ (I O : List WM), (I.foldl (fun O m => ins m O) O).Perm (I ++ O) := by
    intro I
    induction I with
    | nil => intro O; exact List.Perm.refl _
    | cons m I ih => intro O; exact (ih _).trans (((ins_perm m O).append_left I).trans List.perm_middle)
  have := aux I []
  rwa [List.append_nil] at this
/-- Whichever way they come, they stand alike. -/
theorem insAll_rev (I : List WM) : (insAll I).map WM.pl = (insAll I.reverse).map WM.pl := by
  have hp : ((insAll I).map WM.pl).Perm ((insAll I.reverse).map WM.pl) := (((insAll_perm I).trans (List.reverse_perm I).symm).trans (insAll_perm I.reverse).symm).map _
  have hs : ∀ J : List WM, ((insAll J).map WM.pl).Pairwise fun a b => cmpM a b ≤ 0 := fun J => List.pairwise_map.2 (insAll_sorted J)
  refine List.Perm.eq_of_pairwise (fun a b _ _ h1 h2 => ?_) (hs I) (hs I.reverse) hp
  have := cmpM_pre.anti a b
  exact (cmpM_zero a b).1 (by omega)
theorem ins_drop {m o : WM} {O : List WM} {k : Nat} (h : O[k]? = some o) : ins m (O.drop k) = if 0 < cmpM o.pl m.pl then m :: O.drop k else o :: ins m (O.drop (k + 1)) := by
  obtain ⟨h1, rfl⟩ := List.getElem?_eq_some_iff.1 h
  rw [List.drop_eq_getElem_cons h1]; rfl
end Go.Proofs.YtbcnpklmhgcenaaDoor
