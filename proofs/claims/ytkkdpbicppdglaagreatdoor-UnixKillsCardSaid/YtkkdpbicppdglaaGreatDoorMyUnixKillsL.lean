/- UnixKills: whatever the process and the signal, the law gives true. (Its card: the table of math/bits is as the program's text lays it.) -/
import Derived.Test.YtkkdpbicppdglaaGreatDoorRows
import Derived.Test.YtkkdpbicppdglaaGreatDoorCards
import Derived.Test.YtkkdpbicppdglaaGreatDoorTie
import Derived.Test.YtkkdpbicppdglaaGreatDoorMyAwake22
namespace Go.Proofs.YtkkdpbicppdglaaGreatDoor
open Go.ChangeShapes Go.WideShapes Go.ChangeAt Go.RowKit Go.AM
noncomputable def killsX : List Blk := [.tok [.bin .gtr (.int .u64 8) (.bool true), .bin .neq (.int .u64 1) (.bool true), .bin .neq (.int .u64 2) (.bool true)], .tok [.bin .gtr (.int .u64 15) (.bool true)]]
noncomputable def killsRun (p s : Value) : Bool := isTrue (clU 3 [p, s] (listHeap (doorL 1 .u8 tab ++ killsX)))
def killsPids : List Value := [.int .u64 0, .int .u64 3, .int .u64 4, .int .u64 5, .int .u64 6, .int .u64 7, .int .u64 8, .chan (some 2)]
def killsSigs : List Value := [.int .u64 0, .int .u64 1, .int .u64 2, .int .u64 3, .int .u64 4, .int .u64 5, .int .u64 6, .int .u64 7, .int .u64 8, .int .u64 9, .int .u64 10, .int .u64 11, .int .u64 12, .int .u64 13, .int .u64 14, .int .u64 15, .chan (some 3)]
set_option maxRecDepth 100000 in
theorem unixKills_run0 : (killsPids.all fun p => killsRun p (.chan none)) = true := by kernel_rfl
set_option maxRecDepth 100000 in
theorem unixKills_run1 : (killsSigs.all fun s => killsRun (.int .u64 1) s) = true := by kernel_rfl
set_option maxRecDepth 100000 in
theorem unixKills_run2 : (killsSigs.all fun s => killsRun (.int .u64 2) s) = true := by kernel_rfl

def above (b n : Int) : Int := if b < n then n else b + 1
theorem above_lt (b n : Int) : b < above b n := by unfold above; split <;> omega
def killsS (p s : Int) : List AM.Stat := [.sym .u64 (above 8 p), .sym .u64 (above 15 s)]
theorem fact_bool {m : Mp} {op : BinOp} {k k' : IntKind} {n b : Int} {r : Bool} (h : binV op k n k' b = some (.bool r)) : Fact.ok m k n (.bin op (.int k' b) (.bool r)) := by
  refine ⟨fun k2 b2 hb => ?_, fun op' o res hf => ?_⟩
  · rcases hb with hb | ⟨j, hb, _⟩
    · cases hb; exact ⟨_, h, .bool r⟩
    · cases hb
  · rcases hf with hf | hf
    · cases hf; exact ⟨k', b, .inl rfl⟩
    · cases hf
theorem kills_facts {m : Mp} {W : World} (p s : Int) : ∀ (i : Nat) (x : AM.Stat) (b : Blk), (killsS p s)[i]? = some x → killsX[i]? = some b → BRel m W x (some b) := by
  intro i x b h1 h2
  have e8 := above_lt 8 p
  have e15 := above_lt 15 s
  match i with
  | 0 =>
    simp only [killsS, killsX, List.getElem?_cons_zero, Option.some.injEq] at h1 h2
    subst h1; subst h2
    intro f hf
    simp only [List.mem_cons, List.not_mem_nil, or_false] at hf
    rcases hf with rfl | rfl | rfl
    · refine fact_bool ?_
      show some (Value.bool (ltI 8 (above 8 p))) = _
      rw [ltI_eq, decide_eq_true e8]
    · refine fact_bool ?_
      show some (Value.bool !(eqI (above 8 p) 1)) = _
      rw [eqI_eq, show ((above 8 p) == 1) = false by rw [beq_eq_false_iff_ne]; omega]; rfl
    · refine fact_bool ?_
      show some (Value.bool !(eqI (above 8 p) 2)) = _
      rw [eqI_eq, show ((above 8 p) == 2) = false by rw [beq_eq_false_iff_ne]; omega]; rfl
  | 1 =>
    simp only [killsS, killsX, List.getElem?_cons_zero, List.getElem?_cons_succ, Option.some.injEq] at h1 h2
    subst h1; subst h2
    intro f hf
    simp only [List.mem_cons, List.not_mem_nil, or_false] at hf
    subst hf
    refine fact_bool ?_
    show some (Value.bool (ltI 15 (above 15 s))) = _
    rw [ltI_eq, decide_eq_true e15]
  | n + 2 => simp [killsS] at h1

set_option maxRecDepth 100000 in
theorem unixKills_calls {W : World} {base : Nat} {v0 v1 : Value} (h0 : Value.okWide Tryz.prog W .any base 22 v0) (h1 : Value.okWide Tryz.prog W .any base 22 v1) (hL : laidMetH Tryz.prog Rows.unixKillsRow.laid W) : Calls Tryz.prog 3 #[v0, v1] W fun e W' => e = .returned (.bool true) ∧ Still W W' := by
  obtain ⟨cs, el, fr, c1, c2, c3⟩ := tab_laid hL
  obtain ⟨p, rfl, hp⟩ := val_int (u := 22) (k := .u64) (by kernel_rfl) h0
  obtain ⟨s, rfl, hs⟩ := val_int (u := 22) (k := .u64) (by kernel_rfl) h1
  have hp0 : 0 ≤ p := hp.1
  have hs0 : 0 ≤ s := hs.1
  have fin : ∀ a b : Value, killsRun a b = true → VRel (statMp (doorS 1 tab ++ killsS p s)) a (.int .u64 p) → VRel (statMp (doorS 1 tab ++ killsS p s)) b (.int .u64 s) → Calls Tryz.prog 3 #[.int .u64 p, .int .u64 s] W fun e W' => e = .returned (.bool true) ∧ Still W W' := by
    intro a b hrun ha hb
    exact door_calls (g := 1) (k := .u8) (bs := tab) (args' := [.int .u64 p, .int .u64 s]) (ex := killsX) (exs := killsS p s) clU_ok rfl rfl (kills_facts p s) c1 c2 c3 hrun (.cons _ _ _ _ ha (.cons _ _ _ _ hb .nil))
  have any_s : VRel (statMp (doorS 1 tab ++ killsS p s)) (.chan none) (.int .u64 s) := .any _ rfl
  have sigs : ∀ (q : Value), (killsSigs.all fun s => killsRun q s) = true → VRel (statMp (doorS 1 tab ++ killsS p s)) q (.int .u64 p) → Calls Tryz.prog 3 #[.int .u64 p, .int .u64 s] W fun e W' => e = .returned (.bool true) ∧ Still W W' := by
    intro q hq hv
    have lit : ∀ n : Int, s = n → Value.int .u64 n ∈ killsSigs → Calls Tryz.prog 3 #[.int .u64 p, .int .u64 s] W fun e W' => e = .returned (.bool true) ∧ Still W W' := by
      intro n hn hm
      exact fin q (.int .u64 n) (List.all_eq_true.1 hq _ hm) hv (hn ▸ .int _ _)
    by_cases hbig : 15 < s
    · refine fin q (.chan (some 3)) (List.all_eq_true.1 hq _ (by simp [killsSigs])) hv (.sym 3 .u64 s ?_)
      show AM.Stat.sym .u64 (above 15 s) = _
      unfold above; rw [if_pos hbig]
    · have : s = 0 ∨ s = 1 ∨ s = 2 ∨ s = 3 ∨ s = 4 ∨ s = 5 ∨ s = 6 ∨ s = 7 ∨ s = 8 ∨ s = 9 ∨ s = 10 ∨ s = 11 ∨ s = 12 ∨ s = 13 ∨ s = 14 ∨ s = 15 := by omega
      rcases this with h | h | h | h | h | h | h | h | h | h | h | h | h | h | h | h <;> exact lit _ h (by simp [killsSigs])
  by_cases hbig : 8 < p
  · refine fin (.chan (some 2)) (.chan none) (List.all_eq_true.1 unixKills_run0 _ (by simp [killsPids])) (.sym 2 .u64 p ?_) any_s
    show AM.Stat.sym .u64 (above 8 p) = _
    unfold above; rw [if_pos hbig]
  · have lit : ∀ n : Int, p = n → Value.int .u64 n ∈ killsPids → Calls Tryz.prog 3 #[.int .u64 p, .int .u64 s] W fun e W' => e = .returned (.bool true) ∧ Still W W' := by
      intro n hn hm
      exact fin (.int .u64 n) (.chan none) (List.all_eq_true.1 unixKills_run0 _ hm) (hn ▸ .int _ _) any_s
    have : p = 0 ∨ p = 1 ∨ p = 2 ∨ p = 3 ∨ p = 4 ∨ p = 5 ∨ p = 6 ∨ p = 7 ∨ p = 8 := by omega
    rcases this with h | h | h | h | h | h | h | h | h
    · exact lit _ h (by simp [killsPids])
    · exact sigs (.int .u64 1) unixKills_run1 (h ▸ .int _ _)
    · exact sigs (.int .u64 2) unixKills_run2 (h ▸ .int _ _)
    · exact lit _ h (by simp [killsPids])
    · exact lit _ h (by simp [killsPids])
    · exact lit _ h (by simp [killsPids])
    · exact lit _ h (by simp [killsPids])
    · exact lit _ h (by simp [killsPids])
    · exact lit _ h (by simp [killsPids])

set_option maxRecDepth 100000 in
theorem unixKills_lifted (os : Os) (started : os.Started) (H : Type) (enc : TypeId × Value → H) :
    ReturnsInHanded {} Tryz.checked os 3 .any (fun w args => (Rows.unixKillsSpec.pre enc Tryz.prog Tryz.f3 Rows.unixKillsRow.domain false w args ∧ laidMetH Tryz.prog Rows.unixKillsRow.laid w) ∧ sizedMet enc Tryz.prog Tryz.f3 (OpenSpec.ofChange Rows.unixKillsSpec) false w args)
      (Rows.unixKillsSpec.post enc Tryz.prog Tryz.f3 false true false false) := by
  refine returnsInHanded_of_change_and (C := Tryz.checked) (X := fun w _ => laidMetH Tryz.prog Rows.unixKillsRow.laid w) (fun _ _ _ hh h => h.of_heap hh) Tryz.own started (by kernel_rfl) Tryz.func3
    (ChangeSpec.witness_shaped (enc := enc) (C := Tryz.checked) (os := os) (X := fun w _ => laidMetH Tryz.prog Rows.unixKillsRow.laid w) false (World.laidAll Tryz.prog os Rows.unixKillsRow.laid) #[.int .u64 0, .int .u64 0] 8 (World.laidAll_os _ _ _)
      (World.shaped_of_ZipB (by kernel_rfl) (by kernel_rfl)) (by kernel_rfl) (by kernel_rfl) (by kernel_rfl)
      (by rw [MakeChecks.laidMetH_plain _ _ _ (by kernel_rfl)]; exact laidMet_laidAll _ (by kernel_rfl) (by kernel_rfl))) ?_
  intro W base args ds gs before hval0 hW hcnd _ hL _
  have hval : ∀ (j : Nat) t v, Tryz.f3.params[j]? = some t → args[j]? = some v → Value.okWide Tryz.prog W .any base t v := hval0
  have hW' := hW
  obtain ⟨p, q, hA0, hV, rfl, hfz, hnd⟩ := hW
  have hA1 : DataW.TrodAll enc Tryz.prog W 0 (fun _ => true) true Tryz.f3.params.toList args.toList ds p := hA0
  have hA := hA1
  rw [Tryz.params3] at hA hval
  obtain ⟨v0, v1, d0, d1, p0, p1, rfl, rfl, rfl, h0, h1⟩ := trodAll_two hA
  obtain ⟨rfl, rfl⟩ := trodVars_none hV
  refine (unixKills_calls (hval 0 22 v0 rfl rfl) (hval 1 22 v1 rfl rfl) hL).mono fun e W' ⟨he, hw⟩ => ?_
  subst he
  simp only [List.append_nil] at hW' ⊢
  exact ⟨_, rfl, post_true (bt := 4) Tryz.kids Tryz.full (by rw [Tryz.params3]; decide) (by kernel_rfl) (by kernel_rfl) rfl rfl hW' hA1 rfl rfl rfl hw⟩

end Go.Proofs.YtkkdpbicppdglaaGreatDoor
