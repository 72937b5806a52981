/- Lemmas of the claim: the machine of the proof and the walks of the program. Conditions: as each says. -/
import Derived.Test.YtmadjdgipfdnkaaDoorG4
import Derived.Shelf.Strings.Repeat
import Derived.Shelf.Strings.Search1
import Derived.Shelf.Small.Strs
import Derived.Shelf.Strings.Search2
section
/- Maps with int keys, for rewriting; the entry that a loop is at. Conditions: as each rule says. -/
set_option linter.unusedSectionVars false
namespace Go.AM
variable {P : Program}
abbrev Ent := Int × Value × Nat
def entV (k : IntKind) (l : List Ent) : List (Value × Value × Nat) := l.map fun x => (.int k x.1, x.2.1, x.2.2)
def lookI : List Ent → Int → Option Value
  | [], _ => none
  | x :: r, n => if n = x.1 then some x.2.1 else lookI r n
theorem keyEq_int (k k' : IntKind) (a b : Int) : keyEq (.int k a) (.int k' b) = decide (a = b) := by
  show (a == b) = _
  rw [Bool.eq_iff_iff]; simp
theorem findE_ent (k : IntKind) (n : Int) : ∀ l : List Ent, findE (.int k n) (entV k l) = lookI l n
  | [] => rfl
  | x :: l => by
    have ih := findE_ent k n l
    show (if keyEq (.int k n) (.int k x.1) then some x.2.1 else findE (.int k n) (entV k l)) = if n = x.1 then some x.2.1 else lookI l n
    rw [keyEq_int, ih]
    by_cases h : n = x.1
    · rw [decide_eq_true h, if_pos h]; rfl
    · rw [decide_eq_false h, if_neg h]; rfl
theorem keysOk_ent (k : IntKind) (n : Int) (l : List Ent) : keysOk (.int k n) (entV k l) = true := by
  unfold keysOk entV
  rw [List.all_map, List.all_eq_true]
  intro x _
  show Nat.beq (kindN k) (kindN k) = true
  exact Nat.beq_refl _
theorem putE_ent (k : IntKind) (n : Int) (v : Value) (c : Nat) : ∀ l : List Ent, lookI l n = none → putE (.int k n) v c (entV k l) = entV k (l ++ [(n, v, c)])
  | [], _ => rfl
  | x :: l, h => by
    unfold lookI at h
    by_cases hn : n = x.1
    · rw [if_pos hn] at h; cases h
    · rw [if_neg hn] at h
      have ih := putE_ent k n v c l h
      show (if keyEq (.int k n) (.int k x.1) then _ else _) = _
      rw [keyEq_int, decide_eq_false hn]
      show (Value.int k x.1, x.2.1, x.2.2) :: putE (.int k n) v c (entV k l) = _
      rw [ih]; rfl
/-- a map with int keys. -/
abbrev mapB (k : IntKind) (l : List Ent) (c : Nat) : Blk := .map (entV k l) c
def lkX (k : IntKind) (n : Int) (z : Value) (x : Option Blk) : Option Eff := match x with
  | some (.map es _) => if keysOk (.int k n) es then (match findE (.int k n) es with | some v => ret v | none => ret z) else none
  | _ => none
theorem lkX_some (k : IntKind) (n : Int) (z : Value) (l : List Ent) (c : Nat) : lkX k n z (some (.map (entV k l) c)) = ret ((lookI l n).getD z) := by
  unfold lkX
  simp only [keysOk_ent, if_true, findE_ent]
  cases lookI l n <;> rfl
theorem u_lookup {t kt elem : TypeId} {k : IntKind} {z : Value} (hu : P.underlying t = some (.map kt elem)) (hk : P.underlying kt = some (.int k)) (hz : zeroV P elem = some z) (r : Nat) (n : Int) (g : Nat → Option Blk) : effLookup P t (.map (some r)) (.int k n) false g = lkX k n z (g r) := by
  unfold effLookup lkX
  rw [hu]
  simp only [simpleKey, Bool.not_true, Bool.false_eq_true, if_false, hk]
  cases g r with
  | none => rfl
  | some b =>
    cases b <;> try rfl
    rename_i es c
    simp only [effLookup.keyDesc, Bool.true_and]
    cases hko : keysOk (.int k n) es with
    | false => rfl
    | true =>
      simp only [Bool.not_true, Bool.false_eq_true, if_false, if_true]
      cases findE (.int k n) es with
      | none => simp only [hz]
      | some v => rfl
def upX (k : IntKind) (r : Nat) (n : Int) (v : Value) (x : Option Blk) : Option Eff := match x with
  | some (.map es c) => if keysOk (.int k n) es && storable v then some ⟨undef, [(r, .map (putE (.int k n) v c es) (tick (.int k n) es c))], []⟩ else none
  | _ => none
theorem upX_new (k : IntKind) (r : Nat) (n : Int) (v : Value) (l : List Ent) (c : Nat) (h1 : lookI l n = none) (h2 : storable v = true) : upX k r n v (some (.map (entV k l) c)) = some ⟨undef, [(r, .map (entV k (l ++ [(n, v, c)])) (c + 1))], []⟩ := by
  unfold upX tick
  simp only [keysOk_ent, h2, Bool.and_self, if_true, findE_ent, h1, putE_ent k n v c l h1]
theorem u_update {t kt elem : TypeId} {k : IntKind} (hu : P.underlying t = some (.map kt elem)) (hk : P.underlying kt = some (.int k)) (r : Nat) (n : Int) (v : Value) (g : Nat → Option Blk) : effUpdate P t (.map (some r)) (.int k n) v g = upX k r n v (g r) := by
  unfold effUpdate upX
  rw [hu]
  simp only [hk]
  cases g r with
  | none => rfl
  | some b => cases b <;> rfl
def rgX (r nx : Nat) (x : Option Blk) : Option Eff := match x with
  | some (.map _ c) => some ⟨ptr nx 0, [], [.iter r c [] none c]⟩
  | _ => none
theorem rgX_some (r nx : Nat) (es : List (Value × Value × Nat)) (c : Nat) : rgX r nx (some (.map es c)) = some ⟨.pointer (some ⟨nx, 0, none⟩), [], [.iter r c [] none c]⟩ := rfl
theorem u_range {t kt elem : TypeId} (hu : P.underlying t = some (.map kt elem)) (r nx : Nat) (g : Nat → Option Blk) : effRange P t (.map (some r)) g nx = rgX r nx (g r) := by
  unfold effRange rgX
  rw [hu]
  simp only
  cases g r with
  | none => rfl
  | some b => cases b <;> rfl
theorem u_makeMap (t : TypeId) (nx : Nat) : effMakeMap P t none nx = some ⟨.map (some nx), [], [.map (entV .i64 []) 0]⟩ := rfl

variable {ng nt : Nat} [Ds nt] {e : Env} {h : Heap} {Q : AExit → Env → Heap → Prop}
theorem guard_undef {all : List Oper} {e : Env} {o : Oper} {j : Nat} {want : Bool} (hg : o.guard = some (j, want)) (hv : gval all e j = undef) : guardOk all e o = true ∧ wantedA all e o = false := by
  unfold gval at hv
  unfold guardOk wantedA
  rw [hg]
  simp only
  split at hv
  · rename_i d hd
    rw [hd]
    simp only
    rw [hv]
    exact ⟨rfl, rfl⟩
  · cases hv
theorem runG_undef {sp : Special} {K : List Frm} {all r : List Oper} {d : Option Tmp} {op : Op} {t : TypeId} {p : String} {af : Array Edge} {j : Nat} {want : Bool} {e : Env} {h : Heap} :
    RunG P ng sp Q K all r ⟨d, op, t, p, af, some (j, want)⟩ j undef e h ↔ undef = gval all e j ∧ Run P ng sp Q K (.ops all r) (e.put d undef) h := by
  refine and_congr_right fun hv => ?_
  obtain ⟨h1, h2⟩ := @guard_undef all e ⟨d, op, t, p, af, some (j, want)⟩ j want rfl hv.symm
  constructor
  · intro hr
    cases hr with
    | oskip _ _ h3 => exact h3
    | oeff _ h3 _ _ _ => rw [h2] at h3; cases h3
    | ocall _ h3 _ _ _ _ _ => rw [h2] at h3; cases h3
    | ocallp _ h3 _ _ _ _ _ => rw [h2] at h3; cases h3
    | opanic _ h3 _ _ _ => rw [h2] at h3; cases h3
  · exact fun hr => .oskip h1 h2 hr
/-- a piece that is run as before; what comes behind it stays out of sight. -/
theorem Good.detq {sp : Special} {c : Code} (hm : P.follows .mixedOrders = true) (hsp : SpecOk P ng sp) (hok : codeOk ng nt c = true) (hr : ∀ Q1 : AExit → Env → Heap → Prop, (∀ ex e' h', Q ex e' h' → Q1 ex e' h') → Run P ng sp Q1 [] (.code c) e h) : Good P ng nt c e h Q :=
  Good.det hm hsp hok (hr Q fun _ _ _ q => q)
theorem GoodO.takeq {sp : Special} (n : Nat) {all l : List Oper} (hm : P.follows .mixedOrders = true) (hsp : SpecOk P ng sp)
    (hr : ∀ Q1 : AExit → Env → Heap → Prop, (∀ e' h', GoodO P ng nt all (l.drop n) e' h' Q → Q1 .normal e' h') → Run P ng sp Q1 [] (.ops all (l.take n)) e h) : GoodO P ng nt all l e h Q :=
  GoodO.take n hm hsp (hr _ fun _ _ g => ⟨fun _ => g, fun h => absurd rfl h⟩)
theorem Good.of_hwf {c : Code} (H : HWf h → Good P ng nt c e h Q) : Good P ng nt c e h Q := fun hwf => H hwf hwf
theorem GoodO.nil {all : List Oper} (hq : Q .normal e h) : GoodO P ng nt all [] e h Q := fun hwf _ _ _ m w _ hh _ hr => ⟨.normal, e, h, m, hq, hwf, hh, .refl m w, hr, rfl⟩
theorem HWf.new {h : Heap} (hw : HWf h) (x : Blk) : HWf (h.new x) := fun b hb => by
  rw [Heap.nx_new] at hb
  rw [Heap.get_new_ne _ _ (by omega)]; exact hw b (by omega)
theorem HWf.upd {h : Heap} (hw : HWf h) {d : Nat} (hd : d < h.nx) (x : Blk) : HWf (h.upd d x) := fun b hb => by
  rw [Heap.nx_upd] at hb
  rw [Heap.get_upd_ne _ _ (by omega)]; exact hw b hb
theorem HWf.lt {h : Heap} (hw : HWf h) {b : Nat} {x : Blk} (hb : h.get b = some x) : b < h.nx := by
  rcases Nat.lt_or_ge b h.nx with q | q
  · exact q
  · rw [hw b q] at hb; cases hb
theorem WFS.of_hwf {f : FuncId} {args : List Value} {R : Out → Heap → Prop} (H : HWf h → WFS P ng f args h R) : WFS P ng f args h R := fun hwf => H hwf hwf
theorem GoodO.entry {all r : List Oper} {o : Oper} {x : Operand} {v : Value} (hgd : o.guard = none) (hop : o.op = .entry x) (hv : effEntry (e.eval x) h.get = some v) (hk : GoodO P ng nt all r (e.put o.dst v) h Q) : GoodO P ng nt all (o :: r) e h Q := by
  intro hwf k hl hok m w a hh hg hr
  simp only [List.all_cons, Bool.and_eq_true] at hok
  have h0 : all.toArray[k]? = some o := by have := hl 0 (by simp); simpa using this.symm
  simp only [List.length_cons, List.range'_succ]
  refine wpOps_step h0 (by simp [Region.wanted, hgd]) ?_
  rw [Env.eval_eq] at hv
  refine entry_wp (N := h.nx) (F := fun _ => none) hop (by rw [mix_none hwf (Nat.le_refl _)]; exact hh) hwf (Nat.le_refl _) hr hg hok.1 hv ?_
  intro v' hv'
  exact hk hwf (k + 1) (fun j hj => by have := hl (j + 1) (by simpa using hj); simpa [Nat.add_assoc, Nat.add_comm 1 j] using this) hok.2 m w (a.put o.dst v') hh hg (by rw [Env.put_at]; exact hr.put hv' (dst_lt hok.1))
theorem effEntry_look {d r b last : Nat} {k : IntKind} {l : List Ent} {x : Ent} (h1 : h.get d = some (.look r b last)) (h2 : h.get r = some (.map (entV k l) last)) (hf : (entV k l).find? (fun x => Nat.beq x.2.2 b) = some (.int k x.1, x.2.1, x.2.2)) :
    effEntry (.pointer (some ⟨d, 0, none⟩)) h.get = some (.tuple #[.int k x.1, x.2.1]) := by
  unfold effEntry
  simp only [h1, h2, Nat.beq_refl, cond_true, hf]
theorem wfs_list {W : World} {ng : Nat} {f : FuncId} {args args' : List Value} {l : List Blk} {st : List AM.Stat} (hlen : st.length = l.length) (hb : ∀ (i : Nat) (s : AM.Stat) (b : Blk), st[i]? = some s → l[i]? = some b → BRel (statMp st) W s (some b))
    (hro : ∀ (i : Nat) (l1 : Loc) (b : Blk), st[i]? = some (.live l1) → l[i]? = some b → roB (some b) = true ∧ l1.rw = false) (hg : GlobOk ng (statMp st))
    (hw : WFS P ng f args (listHeap l) fun o _ => o = .ret (.bool true)) (ha : VRels (statMp st) args args') : Calls P f args'.toArray W fun e W' => e = .returned (.bool true) ∧ Still W W' := by
  obtain ⟨_, hc⟩ := hw (listHeap_wf l)
  have hrel := list_rel2 hlen hb (fun i l1 b h1 h2 => (hro i l1 b h1 h2).1) (listHeap l).nx (Nat.le_refl _)
  rw [mix_none (listHeap_wf l) (Nat.le_refl _)] at hrel
  refine (hc _ W args' hrel hg ha).mono ?_
  rintro e W' ⟨o, h', m', rfl, _, ho, _, hst⟩
  obtain ⟨v', rfl, hv⟩ := ho
  cases hv
  refine ⟨rfl, hst.os, hst.out, fun cb hcb => hst.keep cb hcb ?_⟩
  intro b l1 h1 hrw
  have h1' := statMp_get h1 (by simp)
  have hb' : b < st.length := (List.getElem?_eq_some_iff.1 h1').1
  rw [hlen] at hb'
  rw [(hro b l1 _ h1' (List.getElem?_eq_getElem hb')).2] at hrw
  cases hrw
end Go.AM
end
section
/- Loops by goto; texts as rows of bytes. Conditions: as each rule says. -/
namespace Go.AM
variable {P : Program} {ng : Nat} {sp : Special} {Q : AExit → Env → Heap → Prop}
/-- a label that is come back to: its invariant, and what is left behind. -/
theorem run_scope2 {K : List Frm} {body rest : Code} {l : Nat} (hl : findLabel body l = some rest) (I : Nat → Env → Heap → Prop) (J : AExit → Env → Heap → Prop)
    (step : ∀ n e h, I n e h → ∀ Q' : AExit → Env → Heap → Prop, (∀ n' e' h', n' < n → I n' e' h' → Q' (.goto l) e' h') → (∀ ex e' h', (∀ l, ex ≠ .goto l) → J ex e' h' → Q' ex e' h') → Run P ng sp Q' [] (.code rest) e h)
    (n : Nat) (e : Env) (h : Heap) (hi : I n e h) (after : ∀ ex e' h', (∀ l, ex ≠ .goto l) → J ex e' h' → Run P ng sp Q K (.exit ex) e' h') : Run P ng sp Q (.scope body :: K) (.code rest) e h := by
  have key : ∀ N n, n < N → ∀ e h, I n e h → Run P ng sp Q (.scope body :: K) (.code rest) e h := by
    intro N
    induction N with
    | zero => intro n hn; omega
    | succ N ih =>
      intro n hn e h hi
      refine (step n e h hi (fun ex e' h' => (ex = .goto l ∧ ∃ n', n' < n ∧ I n' e' h') ∨ ((∀ l, ex ≠ .goto l) ∧ J ex e' h')) (fun n' e' h' h1 h2 => .inl ⟨rfl, n', h1, h2⟩) (fun ex e' h' h1 h2 => .inr ⟨h1, h2⟩)).over ?_
      rintro ex e' h' (⟨rfl, n', h1, h2⟩ | ⟨h1, h2⟩)
      · exact .xscope hl (ih n' (by omega) e' h' h2)
      · exact .xscope' h1 (after _ _ _ h1 h2)
  exact key (n + 1) n (Nat.lt_succ_self n) e h hi
/-- a text of bytes. -/
abbrev mkS (l : List UInt8) : ByteArray := ⟨l.toArray⟩
theorem mkS_data (s : ByteArray) : mkS s.data.toList = s := by cases s; rfl
theorem mkS_size (l : List UInt8) : (mkS l).size = l.length := rfl
theorem mkS_drop (l : List UInt8) (k : Nat) : (mkS l).extract k (mkS l).size = mkS (l.drop k) := by
  have : ((mkS l).extract k (mkS l).size).data = (mkS (l.drop k)).data := by
    rw [ByteArray.data_extract]
    show (l.toArray).extract k l.length = (l.drop k).toArray
    rw [List.extract_toArray]
    congr 1
    show (l.drop k).take (l.length - k) = l.drop k
    exact List.take_of_length_le (by rw [List.length_drop]; omega)
  cases h1 : (mkS l).extract k (mkS l).size with
  | mk d => rw [h1] at this; exact congrArg ByteArray.mk this
theorem str_index {t : TypeId} (ht : tyTag P t = 3) {l : List UInt8} {i : Nat} {b : UInt8} (hb : l[i]? = some b) : effIndex P t (.string (mkS l)) (.int .i64 (i : Int)) = ret (.int .u8 b.toNat) := by
  have hi := (List.getElem?_eq_some_iff.1 hb).1
  rw [effIndex_str t _ _ ht]
  have : idx (.int .i64 (i : Int)) (mkS l).size = some i := by
    unfold idx
    have : Nat.blt i l.length = true := by unfold Nat.blt; exact Nat.ble_eq_true_of_le hi
    simp only [mkS_size, this, cond_true]
  rw [this]
  show opR ((l[i]?).map _) = _
  rw [hb]; rfl
theorem str_tail {t : TypeId} (ht : tyTag P t = 3) {l : List UInt8} (hl : 1 ≤ l.length) (g : Nat → Option Blk) : effSlice P t (.string (mkS l)) (some (.int .i64 1)) none none g = ret (.string (mkS (l.drop 1))) := by
  rw [effSlice_str t _ _ _ g ht]
  have : bounds (mkS l).size (mkS l).size (some (.int .i64 1)) none none = some (1, (mkS l).size, (mkS l).size) := by
    rw [u_bounds, bnd_none]
    simp only
    rw [show (some (Value.int IntKind.i64 1)) = some (Value.int IntKind.i64 ((1 : Nat) : Int)) from rfl, bnd_int, if_pos ⟨by omega, by rw [mkS_size]; omega⟩]
    simp [mkS_size]
  rw [this]
  simp only
  rw [mkS_drop]
/-- bytes as cells. -/
def u8s (l : List UInt8) : List Value := l.map fun b => .int .u8 b.toNat
theorem u8s_len (l : List UInt8) : (u8s l).length = l.length := List.length_map ..
theorem bytes_go : ∀ (l acc : List UInt8), bytesAt.go (u8s l) acc = some ⟨(acc.reverse ++ l).toArray⟩
  | [], acc => by rw [List.append_nil]; rfl
  | b :: l, acc => by
    show bytesAt.go (u8s l) (UInt8.ofNat ((b.toNat : Int)).toNat :: acc) = _
    rw [bytes_go l, Int.toNat_natCast, UInt8.ofNat_toNat, List.reverse_cons, List.append_assoc]; rfl
theorem bytes_at {g : Option Blk} {l : List UInt8} {k : Kind} (hg : g = some (cellsB (u8s l) k)) : bytesAt g 0 l.length = some (mkS l) := by
  subst hg
  unfold bytesAt cellsB
  simp only
  rw [if_pos (by rw [u8s_len]; omega), loadL_ofList _ _ _ (by rw [u8s_len]; omega), List.drop_zero, List.take_of_length_le (by rw [u8s_len]; omega), bytes_go]
  simp
end Go.AM
end
section
/- Rows that grow; texts that are gone through rune by rune. Conditions: as each rule says. -/
namespace Go.AM
variable {P : Program} {h : Heap}
/-- a row of n elements of s cells, in a block of its own. -/
structure RowG (h : Heap) (lo s : Nat) (v : Value) (n : Nat) (L : List Value) : Prop where
  len : L.length = n * s
  is : (v = .slice none 0 0 ∧ L = [] ∧ n = 0) ∨ ∃ b, lo ≤ b ∧ b < h.nx ∧ v = .slice (some ⟨b, 0, none⟩) n n ∧ h.get b = some (cellsB L (.loose s))
theorem RowG.nil {lo s : Nat} : RowG h lo s (.slice none 0 0) 0 [] := ⟨by simp, .inl ⟨rfl, rfl, rfl⟩⟩
theorem RowG.keep {h' : Heap} {lo s : Nat} {v : Value} {n : Nat} {L : List Value} (x : RowG h lo s v n L) (hn : h.nx ≤ h'.nx) (hk : ∀ b, lo ≤ b → b < h.nx → b ∈ blkOf v → h'.get b = h.get b) : RowG h' lo s v n L := by
  refine ⟨x.len, ?_⟩
  rcases x.is with ⟨h1, h2, h3⟩ | ⟨b, h1, h2, rfl, h4⟩
  · exact .inl ⟨h1, h2, h3⟩
  · exact .inr ⟨b, h1, by omega, rfl, (hk b h1 h2 (List.mem_singleton.2 rfl)).trans h4⟩
theorem RowG.lt {lo s : Nat} {v : Value} {n : Nat} {L : List Value} (x : RowG h lo s v n L) : ∀ b ∈ blkOf v, lo ≤ b ∧ b < h.nx := by
  intro b hb
  rcases x.is with ⟨rfl, h2, h3⟩ | ⟨b', h1, h2, rfl, h4⟩
  · cases hb
  · rw [List.mem_singleton.1 hb]; exact ⟨h1, h2⟩
theorem RowG.mono {lo lo' k n : Nat} {v : Value} {L : List Value} (x : RowG h lo k v n L) (hl : lo' ≤ lo) : RowG h lo' k v n L := by
  refine ⟨x.len, ?_⟩
  rcases x.is with h1 | ⟨b, h1, h2⟩
  · exact .inl h1
  · exact .inr ⟨b, by omega, h2⟩
theorem RowG.slc {lo k n : Nat} {v : Value} {L : List Value} (x : RowG h lo k v n L) : ∃ a, v = .slice a n n := by
  rcases x.is with ⟨rfl, _, rfl⟩ | ⟨b, _, _, rfl, _⟩ <;> exact ⟨_, rfl⟩
theorem growG {ts : Array TypeId} {z : List Value} {lo s mb n k : Nat} {v x : Value} {L new : List Value} (ht : appT P ts = some (z, s, mb)) (g : RowG h lo s v n L) (hlo : lo ≤ h.nx) (hx : lenV x = some k) (hk : k ≠ 0) (hsz : (n + k) * mb * 4 ≤ 2 ^ 40) (hnew : firstL h.get s k x = some new) (hl : new.length = k * s) :
    ∃ E h3 w, aAppend P ts v x h.get h.nx = some E ∧ E.val = w ∧ h.apply E = h3 ∧ RowG h3 lo s w (n + k) (L ++ new) ∧ h3.nx = h.nx + 1 ∧ (∀ b', b' < h.nx → b' ∉ blkOf v → h3.get b' = h.get b') ∧ blkOf w = [h.nx] := by
  have hlen : (L ++ new).length = (n + k) * s := by rw [List.length_append, g.len, hl, Nat.add_mul]
  rcases g.is with ⟨rfl, rfl, rfl⟩ | ⟨b, h1, h2, rfl, h4⟩
  · refine ⟨_, _, _, aAppend_nil ht k x h.get h.nx hx hk (by simpa using hsz) hnew, rfl, rfl, ⟨hlen, .inr ⟨h.nx, hlo, ?_, ?_, ?_⟩⟩, ?_, fun b' hb' _ => ?_, rfl⟩
    · rw [Heap.apply_nw, Heap.nx_new]; omega
    · rw [Nat.zero_add]
    · rw [Heap.apply_nw, Heap.get_new_same]; rfl
    · rw [Heap.apply_nw, Heap.nx_new]
    · rw [Heap.apply_nw, Heap.get_new_ne _ _ (by omega)]
  · refine ⟨_, _, _, aAppend_loose ht b n k x h.get h.nx h4 g.len hx hk hsz hnew, rfl, rfl, ⟨hlen, .inr ⟨h.nx, hlo, ?_, rfl, ?_⟩⟩, ?_, fun b' hb' hn => ?_, rfl⟩
    · rw [Heap.apply_wr_nw, Heap.nx_new, Heap.nx_upd]; omega
    · rw [Heap.apply_wr_nw, Heap.get_new_at _ (by rw [Heap.nx_upd]; omega)]
    · rw [Heap.apply_wr_nw, Heap.nx_new, Heap.nx_upd]
    · rw [Heap.apply_wr_nw, Heap.get_new_ne _ _ (by rw [Heap.nx_upd]; omega), Heap.get_upd_ne _ _ (fun e => hn (List.mem_singleton.2 e))]
/-- a text's runes. -/
theorem u_rangeS {t : TypeId} (hu : P.underlying t = some .string) (s : ByteArray) (g : Nat → Option Blk) (nx : Nat) : effRange P t (.string s) g nx = some ⟨.pointer (some ⟨nx, 0, none⟩), [], [.str s 0]⟩ := by
  unfold effRange; rw [hu]; rfl
theorem u_nextS {r pos : Nat} {s : ByteArray} {g : Nat → Option Blk} (hg : g r = some (.str s pos)) (hp : pos < s.size) {c w : Nat} (hd : Utf8.decode s pos = (c, w)) : effNext (.pointer (some ⟨r, 0, none⟩)) true g = some ⟨.tuple #[.bool true, .int .i64 pos, .int .i32 c], [(r, .str s (pos + w))], []⟩ := by
  unfold effNext effNextS
  simp only [hg]
  rw [if_pos hp, hd]
theorem u_nextE {r pos : Nat} {s : ByteArray} {g : Nat → Option Blk} (hg : g r = some (.str s pos)) (hp : ¬ pos < s.size) : effNext (.pointer (some ⟨r, 0, none⟩)) true g = ret (.tuple #[.bool false]) := by
  unfold effNext effNextS
  simp only [hg]
  rw [if_neg hp]
theorem mkS_get {l : List UInt8} {i : Nat} {b : UInt8} (hb : l[i]? = some b) : (mkS l).get! i = b := by
  show (l.toArray)[i]! = b
  rw [getElem!_def, List.getElem?_toArray, hb]
theorem dec_lo {l : List UInt8} {i : Nat} {b : UInt8} (hb : l[i]? = some b) (h : b.toNat < 128) : Utf8.decode (mkS l) i = (b.toNat, 1) := by
  unfold Utf8.decode
  simp only [Nat.add_zero, mkS_get hb]
  rw [if_pos h]
theorem dec_cont {l : List UInt8} {j : Nat} (h : (decide (j < (mkS l).size) && ((mkS l).get! j).toNat / 64 == 2) = true) : ∃ c, l[j]? = some c ∧ 128 ≤ c.toNat := by
  simp only [Bool.and_eq_true, decide_eq_true_eq, beq_iff_eq] at h
  rw [mkS_size] at h
  refine ⟨l[j], List.getElem?_eq_getElem h.1, ?_⟩
  have := h.2
  rw [mkS_get (List.getElem?_eq_getElem h.1)] at this
  omega
theorem dec_hi {l : List UInt8} {i : Nat} {b : UInt8} (hb : l[i]? = some b) (h : 128 ≤ b.toNat) : ∃ c w, Utf8.decode (mkS l) i = (c, w) ∧ 128 ≤ c ∧ c < 2097152 ∧ 1 ≤ w ∧ ∀ j, i < j → j < i + w → ∃ c, l[j]? = some c ∧ 128 ≤ c.toNat := by
  have hone : ∀ j, i < j → j < i + 1 → ∃ c, l[j]? = some c ∧ 128 ≤ c.toNat := fun j h1 h2 => by omega
  have hb256 := b.toNat_lt
  unfold Utf8.decode
  simp only [Nat.add_zero, mkS_get hb]
  rw [if_neg (by omega)]
  by_cases c1 : (b.toNat / 32 == 6 && (decide (i + 1 < (mkS l).size) && ((mkS l).get! (i + 1)).toNat / 64 == 2)) = true
  · rw [if_pos c1]
    have c1' := c1
    rw [Bool.and_eq_true] at c1'
    have q1 := dec_cont c1'.2
    have l1 := ((mkS l).get! (i + 1)).toNat_lt
    split
    · exact ⟨_, _, rfl, by omega, by omega, by omega, fun j h1 h2 => by rw [show j = i + 1 by omega]; exact q1⟩
    · exact ⟨_, _, rfl, by decide, by decide, by omega, hone⟩
  rw [if_neg c1]
  by_cases c2 : (b.toNat / 16 == 14 && (decide (i + 1 < (mkS l).size) && ((mkS l).get! (i + 1)).toNat / 64 == 2) && (decide (i + 2 < (mkS l).size) && ((mkS l).get! (i + 2)).toNat / 64 == 2)) = true
  · rw [if_pos c2]
    have c2' := c2
    rw [Bool.and_eq_true, Bool.and_eq_true] at c2'
    have q1 := dec_cont c2'.1.2
    have q2 := dec_cont c2'.2
    split
    · rename_i hv
      simp only [Bool.and_eq_true, decide_eq_true_eq] at hv
      refine ⟨_, _, rfl, by omega, by omega, by omega, fun j h1 h2 => ?_⟩
      rcases (show j = i + 1 ∨ j = i + 2 by omega) with e | e
      · rw [e]; exact q1
      · rw [e]; exact q2
    · exact ⟨_, _, rfl, by decide, by decide, by omega, hone⟩
  rw [if_neg c2]
  by_cases c3 : (b.toNat / 8 == 30 && (decide (i + 1 < (mkS l).size) && ((mkS l).get! (i + 1)).toNat / 64 == 2) && (decide (i + 2 < (mkS l).size) && ((mkS l).get! (i + 2)).toNat / 64 == 2) && (decide (i + 3 < (mkS l).size) && ((mkS l).get! (i + 3)).toNat / 64 == 2)) = true
  · rw [if_pos c3]
    have c3' := c3
    rw [Bool.and_eq_true, Bool.and_eq_true, Bool.and_eq_true] at c3'
    have q1 := dec_cont c3'.1.1.2
    have q2 := dec_cont c3'.1.2
    have q3 := dec_cont c3'.2
    split
    · rename_i hv
      simp only [Bool.and_eq_true, decide_eq_true_eq] at hv
      refine ⟨_, _, rfl, by omega, by omega, by omega, fun j h1 h2 => ?_⟩
      rcases (show j = i + 1 ∨ j = i + 2 ∨ j = i + 3 by omega) with e | e | e
      · rw [e]; exact q1
      · rw [e]; exact q2
      · rw [e]; exact q3
    · exact ⟨_, _, rfl, by decide, by decide, by omega, hone⟩
  rw [if_neg c3]
  exact ⟨_, _, rfl, by decide, by decide, by omega, hone⟩
theorem dec_any {l : List UInt8} {i : Nat} {b : UInt8} (hb : l[i]? = some b) : ∃ c w, Utf8.decode (mkS l) i = (c, w) ∧ c < 2097152 ∧ 1 ≤ w ∧ (∀ k : Nat, k < 128 → (c = k ↔ b.toNat = k)) ∧ ∀ j, i < j → j < i + w → ∃ d, l[j]? = some d ∧ 128 ≤ d.toNat := by
  by_cases h : b.toNat < 128
  · exact ⟨_, _, dec_lo hb h, by omega, Nat.le_refl _, fun k _ => Iff.rfl, fun j h1 h2 => by omega⟩
  · obtain ⟨c, w, h1, h2, h3, h4, h5⟩ := dec_hi hb (by omega)
    exact ⟨c, w, h1, h3, h4, fun k hk => ⟨fun e => by omega, fun e => by omega⟩, h5⟩
/- ## Texts -/
theorem str_eqG (t : TypeId) (x y : Operand) (a b : List UInt8) (g : Nat → Option Blk) : effBin P .eql t x y (.string (mkS a)) (.string (mkS b)) g = ret (.bool (decide (a = b))) := by
  rw [effBin_str]
  show ret (.bool (a == b)) = _
  rw [show (a == b) = decide (a = b) by rw [Bool.eq_iff_iff, beq_iff_eq, decide_eq_true_iff]]
theorem str_neG (t : TypeId) (x y : Operand) (a b : List UInt8) (g : Nat → Option Blk) : effBin P .neq t x y (.string (mkS a)) (.string (mkS b)) g = ret (.bool (decide (a ≠ b))) := by
  rw [effBin_str]
  show ret (.bool !(a == b)) = _
  rw [show (!(a == b)) = decide (a ≠ b) by rw [Bool.eq_iff_iff, Bool.not_eq_true', beq_eq_false_iff_ne, decide_eq_true_iff]]
theorem mkS_extract (l : List UInt8) (a b : Nat) : (mkS l).extract a b = mkS ((l.drop a).take (b - a)) := by
  have : ((mkS l).extract a b).data = (mkS ((l.drop a).take (b - a))).data := by
    rw [ByteArray.data_extract]
    show (l.toArray).extract a b = ((l.drop a).take (b - a)).toArray
    rw [List.extract_toArray]
  cases h1 : (mkS l).extract a b with
  | mk d => rw [h1] at this; exact congrArg ByteArray.mk this
theorem str_slice {t : TypeId} (ht : tyTag P t = 3) {l : List UInt8} {a b : Nat} (h1 : a ≤ b) (h2 : b ≤ l.length) (g : Nat → Option Blk) : effSlice P t (.string (mkS l)) (some (.int .i64 (a : Int))) (some (.int .i64 (b : Int))) none g = ret (.string (mkS ((l.drop a).take (b - a)))) := by
  rw [effSlice_str t _ _ _ g ht]
  have : bounds (mkS l).size (mkS l).size (some (.int .i64 (a : Int))) (some (.int .i64 (b : Int))) none = some (a, b, (mkS l).size) := by
    rw [u_bounds, bnd_int, if_pos ⟨by omega, by rw [mkS_size]; omega⟩]
    simp only [Int.toNat_natCast]
    rw [bnd_int, if_pos ⟨by omega, by omega⟩]
    simp [mkS_size, h2]
  rw [this]
  simp only
  rw [mkS_extract]
theorem str_from {t : TypeId} (ht : tyTag P t = 3) {l : List UInt8} {a : Nat} (h1 : a ≤ l.length) (g : Nat → Option Blk) : effSlice P t (.string (mkS l)) (some (.int .i64 (a : Int))) none none g = ret (.string (mkS (l.drop a))) := by
  rw [effSlice_str t _ _ _ g ht]
  have : bounds (mkS l).size (mkS l).size (some (.int .i64 (a : Int))) none none = some (a, (mkS l).size, (mkS l).size) := by
    rw [u_bounds, bnd_none]
    simp only
    rw [bnd_int, if_pos ⟨by omega, by rw [mkS_size]; omega⟩]
    simp [mkS_size]
  rw [this]
  simp only
  rw [mkS_drop]
theorem str_to {t : TypeId} (ht : tyTag P t = 3) {l : List UInt8} {b : Nat} (h2 : b ≤ l.length) (g : Nat → Option Blk) : effSlice P t (.string (mkS l)) none (some (.int .i64 (b : Int))) none g = ret (.string (mkS (l.take b))) := by
  rw [effSlice_str t _ _ _ g ht]
  have : bounds (mkS l).size (mkS l).size none (some (.int .i64 (b : Int))) none = some (0, b, (mkS l).size) := by
    rw [u_bounds, bnd_int, if_pos ⟨by omega, by rw [mkS_size]; omega⟩]
    simp only [Int.toNat_natCast]
    rw [bnd_none]
    simp [mkS_size, h2]
  rw [this]
  simp only
  rw [mkS_extract, List.drop_zero, Nat.sub_zero]
def strs (l : List (List UInt8)) : List Value := l.map fun x => .string (mkS x)
theorem strs_len (l : List (List UInt8)) : (strs l).length = l.length := List.length_map ..
theorem strs_app (a b : List (List UInt8)) : strs (a ++ b) = strs a ++ strs b := List.map_append
theorem strs_at {l : List (List UInt8)} {i : Nat} {x : List UInt8} (h : l[i]? = some x) : (strs l)[i]? = some (.string (mkS x)) := by
  unfold strs; rw [List.getElem?_map, h]; rfl
end Go.AM
end
section
/- Specials for the library's texts: IndexByte, Compare, Repeat, a Builder's copyCheck and String. -/
namespace Go.AM
open Go.Proofs Go.Shelf Go.RowKit
variable {P : Program} {ρ : Ren} {ng : Nat}

/- ## what is new and none's -/
theorem HRel.other {m : Mp} {G : Nat → Option Blk} {w w' : World} (h : HRel m G w) (hw : ∀ b l, m b = .live l → w'.heap[l.cb]? = w.heap[l.cb]?) : HRel m G w' :=
  ⟨fun b => (h.blk b).mono (.refl m) (fun l hl => hw b l hl), h.inj⟩
theorem HRel.below {m : Mp} {G : Nat → Option Blk} {w w' : World} (h : HRel m G w) (hb : Below w.heap.size w w') : HRel m G w' ∧ Step m w m w' :=
  ⟨h.other fun _ _ hl => hb.block _ (h.lt hl), .refl m, hb.size, hb.os, hb.output, fun cb hc _ => hb.block cb hc, fun b l hl hr => .inr ⟨b, l, hl, hr, rfl⟩, fun _ _ hl _ => hl⟩

/-- a function that computes. -/
noncomputable def pureF (v : List Value → Option Value) (_ : Caller) (args : List Value) (h : Heap) : Option (Out × Heap) := (v args).map fun r => (.ret r, h)
theorem pureF_ok {v : List Value → Option Value} {f : FuncId} (hen : Enter P f)
    (hv : ∀ args r, v args = some r → args.all plainCell = true ∧ plainCell r = true ∧ ∀ w, Calls P f args.toArray w fun e w' => e = .returned r ∧ Below w.heap.size w w') (cl : Caller) :
    CallOkAt P ng f (pureF v cl) := by
  intro args h o h' hr hwf
  unfold pureF at hr
  obtain ⟨r, h1, h2⟩ := Option.map_eq_some_iff.1 hr
  simp only [Prod.mk.injEq] at h2
  obtain ⟨rfl, rfl⟩ := h2
  obtain ⟨p1, p2, p3⟩ := hv args r h1
  refine ⟨hen, hwf, Nat.le_refl _, fun N F m w args' hN hh hgl ha => ?_⟩
  rw [plainCells_eq p1 ha]
  refine (p3 w).mono ?_
  rintro e w' ⟨rfl, hb⟩
  obtain ⟨q1, q2⟩ := hh.below hb
  exact ⟨m, ⟨r, rfl, (plainCell_rel p2).1⟩, q1, q2⟩

/- ## IndexByte -/
noncomputable def idxA (l : List UInt8) (c : Nat) (i : Nat) : Int :=
  List.rec (motive := fun _ => Nat → Int) (fun _ => Int.negSucc 0) (fun b _ ih i => cond (Nat.beq b.toNat c) (Int.ofNat i) (ih (Nat.succ i))) l i
theorem idxA_eq (l : List UInt8) (c : UInt8) : ∀ i, idxA l c.toNat i = if Lib.indexByte l c = -1 then -1 else Lib.indexByte l c + i := by
  have hnn : ∀ l : List UInt8, Lib.indexByte l c = -1 ∨ 0 ≤ Lib.indexByte l c := by
    intro l
    induction l with
    | nil => exact .inl rfl
    | cons b r ih =>
      unfold Lib.indexByte
      by_cases h1 : (b == c) = true
      · rw [if_pos h1]; exact .inr (by omega)
      · rw [if_neg h1]
        by_cases h2 : (Lib.indexByte r c == -1) = true
        · rw [if_pos h2]; exact .inl rfl
        · rw [if_neg h2]
          rcases ih with h | h
          · exact absurd (by rw [h]; rfl) h2
          · exact .inr (by omega)
  induction l with
  | nil => intro i; rfl
  | cons b r ih =>
    intro i
    show cond (Nat.beq b.toNat c.toNat) (Int.ofNat i) (idxA r c.toNat (i + 1)) = _
    unfold Lib.indexByte
    by_cases h1 : b = c
    · subst h1
      rw [Nat.beq_refl]
      simp
    · have h2 : Nat.beq b.toNat c.toNat = false := by
        rw [← Bool.not_eq_true, Nat.beq_eq]
        exact fun e => h1 (UInt8.toNat_inj.1 e)
      rw [h2, cond_false, ih]
      have h3 : (b == c) = false := by simpa using h1
      rw [h3]
      simp only [Bool.false_eq_true, if_false]
      by_cases h4 : Lib.indexByte r c = -1
      · simp [h4]
      · have h5 := (hnn r).resolve_left h4
        have h6 : (Lib.indexByte r c == -1) = false := by simpa using h4
        rw [if_neg h4, h6]
        simp only [Bool.false_eq_true, if_false]
        rw [if_neg (by omega), Int.natCast_succ]
        omega
noncomputable def idxV (args : List Value) : Option Value := match args with
  | [.string s, .int .u8 (.ofNat c)] => cond (Nat.blt c 256) (some (.int .i64 (idxA s.data.toList c 0))) none
  | _ => none
theorem idxF_ok (L : Lays.n217 P ρ) (hen : Enter P (ρ.f 217)) (cl : Caller) : CallOkAt P ng (ρ.f 217) (pureF idxV cl) := by
  refine pureF_ok hen ?_ cl
  intro args r hr
  unfold idxV at hr
  split at hr <;> try (simp at hr; done)
  rename_i s c
  cases hc : Nat.blt c 256 with
  | false => rw [hc] at hr; simp at hr
  | true =>
    rw [hc] at hr
    simp only [cond_true, Option.some.injEq] at hr
    subst hr
    have hc : c < 256 := by simpa [Nat.blt_eq] using hc
    refine ⟨rfl, rfl, fun w => (Any.stringslite_IndexByte L s (.ofNat c) w).mono ?_⟩
    rintro e w' ⟨rfl, rfl⟩
    refine ⟨?_, Below.refl _ _⟩
    have := idxA_eq s.data.toList c.toUInt8 0
    have hcn : c.toUInt8.toNat = c := by simp [Nat.toUInt8]; omega
    rw [hcn] at this
    rw [this]
    show Ending.returned (.int .i64 (Lib.indexByte s.data.toList c.toUInt8)) = _
    congr 2
    by_cases h : Lib.indexByte s.data.toList c.toUInt8 = -1
    · rw [if_pos h]; exact h
    · rw [if_neg h]; simp

/- ## Compare -/
noncomputable def cmpA (a b : List UInt8) : Int :=
  List.rec (motive := fun _ => List UInt8 → Int) (fun b => List.rec (motive := fun _ => Int) (Int.ofNat 0) (fun _ _ _ => Int.negSucc 0) b)
    (fun x _ ih b => List.rec (motive := fun _ => Int) (Int.ofNat 1) (fun y s _ => cond (Nat.blt x.toNat y.toNat) (Int.negSucc 0) (cond (Nat.blt y.toNat x.toNat) (Int.ofNat 1) (ih s))) b) a b
theorem cmpA_eq : ∀ (a b : List UInt8), cmpA a b = Lib.compareBytes a b
  | [], [] => rfl
  | [], _ :: _ => rfl
  | _ :: _, [] => rfl
  | x :: a, y :: b => by
    show cond (Nat.blt x.toNat y.toNat) (Int.negSucc 0) (cond (Nat.blt y.toNat x.toNat) (Int.ofNat 1) (cmpA a b)) = _
    unfold Lib.compareBytes
    rw [cmpA_eq a b]
    have e1 : Nat.blt x.toNat y.toNat = decide (x < y) := by
      rw [Bool.eq_iff_iff, Nat.blt_eq, decide_eq_true_iff, UInt8.lt_iff_toNat_lt]
    have e2 : Nat.blt y.toNat x.toNat = decide (y < x) := by
      rw [Bool.eq_iff_iff, Nat.blt_eq, decide_eq_true_iff, UInt8.lt_iff_toNat_lt]
    rw [e1, e2]
    by_cases h1 : x < y
    · simp [h1]
    · by_cases h2 : y < x <;> simp [h1, h2]
noncomputable def cmpV (args : List Value) : Option Value := match args with
  | [.string s, .string t] => some (.int .i64 (cmpA s.data.toList t.data.toList))
  | _ => none
theorem cmpF_ok (L : Lays.n213 P ρ) (hen : Enter P (ρ.f 213)) (cl : Caller) : CallOkAt P ng (ρ.f 213) (pureF cmpV cl) := by
  refine pureF_ok hen ?_ cl
  intro args r hr
  unfold cmpV at hr
  split at hr <;> try (simp at hr; done)
  rename_i s t
  simp only [Option.some.injEq] at hr
  subst hr
  refine ⟨rfl, rfl, fun w => (Any.bytealg_CompareString L s t w).mono ?_⟩
  rintro e w' ⟨rfl, rfl⟩
  exact ⟨by rw [cmpA_eq], Below.refl _ _⟩

/- ## Repeat -/
noncomputable def repB (l : List UInt8) (n : Nat) : List UInt8 := Nat.rec (motive := fun _ => List UInt8) [] (fun _ ih => l ++ ih) n
theorem repB_eq (l : List UInt8) : ∀ n, repB l n = Lib.repeatL l n
  | 0 => rfl
  | n + 1 => by show l ++ repB l n = _; rw [repB_eq l n]; rfl
noncomputable def repV (args : List Value) : Option Value := match args with
  | [.string s, .int .i64 (.ofNat n)] => cond (Nat.ble n 1000000 && Nat.ble s.size 1000000) (some (.string ⟨(repB s.data.toList n).toArray⟩)) none
  | _ => none
theorem repF_ok (L : Lays.n105 P ρ) (X : Builder.Extra P ρ) (hen : Enter P (ρ.f 105)) (cl : Caller) : CallOkAt P ng (ρ.f 105) (pureF repV cl) := by
  refine pureF_ok hen ?_ cl
  intro args r hr
  unfold repV at hr
  split at hr <;> try (simp at hr; done)
  rename_i s n
  cases hc : (Nat.ble n 1000000 && Nat.ble s.size 1000000) with
  | false => rw [hc] at hr; simp at hr
  | true =>
    rw [hc] at hr
    simp only [cond_true, Option.some.injEq] at hr
    subst hr
    simp only [Bool.and_eq_true] at hc
    have h1 := Nat.le_of_ble_eq_true hc.1
    have h2 := Nat.le_of_ble_eq_true hc.2
    have h3 : s.size * n ≤ 1000000 * 1000000 := Nat.mul_le_mul h2 h1
    refine ⟨rfl, rfl, fun w => (Any.strings_Repeat L X s n w (by omega) (by omega)).mono ?_⟩
    rintro e w' ⟨rfl, hb⟩
    exact ⟨by rw [repB_eq], hb⟩

/- ## copyCheck -/
noncomputable def ccF (tb : Nat) (_ : Caller) (args : List Value) (h : Heap) : Option (Out × Heap) := match args with
  | [.pointer (some ⟨b, off, none⟩)] => cond (Nat.beq off 0) (match h.get b with
    | some (.cells xs n (.bld t)) => cond (Nat.beq t tb && Nat.beq n 2) (match xs.get 0 with
      | some (.pointer none) => some (.ret (.tuple #[]), ⟨h.t.set b (.cells (storeL xs 0 [.pointer (some ⟨b, 0, none⟩)]) n (.bld t)), h.nx⟩)
      | some (.pointer (some ⟨b', o', none⟩)) => cond (Nat.beq b' b && Nat.beq o' 0) (some (.ret (.tuple #[]), h)) none
      | _ => none) none
    | _ => none) none
  | _ => none
theorem set_eq {w : World} {cb : Nat} {c : Array Value} {el : TypeId} {fr : Nat × Nat} (h : w.heap[cb]? = some (.cells c el fr)) (v : Value) :
    w.setCell ⟨cb, 0, none⟩ v = { w with heap := w.heap.setIfInBounds cb (.cells (overA c 0 [v]) el fr) } := by
  unfold World.setCell
  congr 1
  apply Array.ext_getElem?
  intro k
  rw [Array.getElem?_modify, Array.getElem?_setIfInBounds]
  by_cases e : cb = k
  · subst e
    have hlt : cb < w.heap.size := by
      rcases Nat.lt_or_ge cb w.heap.size with h' | h'
      · exact h'
      · rw [Array.getElem?_eq_none h'] at h; cases h
    simp only [if_true, hlt, h, Option.map_some, Option.isSome_none, Bool.false_eq_true, if_false]
    rfl
  · rw [if_neg e, if_neg e]
theorem ccF_ok (L : Lays.n240 P ρ) (X : Builder.X72 P ρ) (hen : Enter P (ρ.f 240)) (cl : Caller) : CallOkAt P ng (ρ.f 240) (ccF (ρ.t 72) cl) := by
  intro args h o h' hr hwf
  unfold ccF at hr
  split at hr <;> try (simp at hr; done)
  rename_i b off
  cases ho : Nat.beq off 0 with
  | false => rw [ho] at hr; simp at hr
  | true =>
  rw [ho] at hr
  obtain rfl := Nat.eq_of_beq_eq_true ho
  simp only [cond_true] at hr
  split at hr <;> try (simp at hr; done)
  rename_i xs n t hg
  cases ht : (Nat.beq t (ρ.t 72) && Nat.beq n 2) with
  | false => rw [ht] at hr; simp at hr
  | true =>
  rw [ht] at hr
  simp only [Bool.and_eq_true] at ht
  obtain rfl := Nat.eq_of_beq_eq_true ht.1
  obtain rfl := Nat.eq_of_beq_eq_true ht.2
  simp only [cond_true] at hr
  have key : ∀ (N : Nat) (F : Nat → Option Blk) (m : Mp) (w : World) (args' : List Value), h.nx ≤ N → HRel m (mix h N F) w → VRels m [.pointer (some ⟨b, 0, none⟩)] args' →
      ∃ l c v v', m b = .live l ∧ AtCells m w xs 2 (.bld (ρ.t 72)) l c (ρ.t 72) (0, 0) ∧ l.rw = true ∧ l.sh = 0 ∧ c.size = 2 ∧ args' = [.pointer (some ⟨l.cb, 0, none⟩)] ∧ xs.get 0 = some v ∧ w.cell? ⟨l.cb, 0, none⟩ = some v' ∧ VRel m v v' ∧
        w.shape? l.cb = some (ρ.t 72, 2) ∧ w.frozen? ⟨l.cb, 0, none⟩ = false := by
    intro N F m w args' hN hh ha
    obtain ⟨l, hm, c, el, fr, hc⟩ := hh.cells hwf hN hg
    obtain ⟨k1, k2, k3, k4, k5⟩ : l.rw = true ∧ l.sh = 0 ∧ l.csz = 2 ∧ fr = (0, 0) ∧ el = ρ.t 72 := hc.kind
    subst k4; subst k5
    obtain ⟨v, v', g1, g2, _, g4⟩ := hc.cell 0 (by omega)
    rw [k2] at g2
    have hcs : c.size = 2 := by rw [hc.csz, k3]
    have hheap := hc.heap
    cases ha with
    | cons _ a' _ r' ha hr' =>
    cases hr'
    have := ptr_live ha hm
    rw [k2] at this
    exact ⟨l, c, v, v', hm, hc, k1, k2, hcs, by rw [this], g1, by rw [cell_at hheap]; exact g2, g4, by simp [World.shape?, hheap, hcs], by rw [frozen_at hheap]; simp⟩
  split at hr <;> try (simp at hr; done)
  · rename_i hx0
    simp only [Option.some.injEq, Prod.mk.injEq] at hr
    obtain ⟨rfl, rfl⟩ := hr
    refine ⟨hen, ?_, Nat.le_refl _, fun N F m w args' hN hh hgl ha => ?_⟩
    · intro b' hb'
      have hne : b' ≠ b := by
        intro e; subst e
        have := hwf b' hb'
        rw [this] at hg; cases hg
      show (h.t.set b _).get b' = none
      rw [Trie.get_set_ne _ _ hne]
      exact hwf b' hb'
    · obtain ⟨l, c, v, v', hm, hc, k1, k2, hcs, rfl, g1, g2, g4, g5, g6⟩ := key N F m w args' hN hh ha
      rw [hx0] at g1
      simp only [Option.some.injEq] at g1
      subst g1
      cases g4
      refine (Any.Builder_copyCheck_fresh L X l.cb w g2 g5 g6).mono ?_
      rintro e w' ⟨rfl, rfl⟩
      have hN' : h.nx ≤ N := hN
      have hbr := wr_cells hc (off := 0) (vs := [.pointer (some ⟨b, 0, none⟩)]) (vs' := [.pointer (some ⟨l.cb, l.sh + 0, none⟩)]) (by simp) (.cons _ _ _ _ (.ptr b 0 l hm) .nil) rfl
      obtain ⟨r1, r2⟩ := wr_rel (v := .tuple #[]) hh (lt_of_get hwf hN' hg) hm k1 hbr
      rw [k2] at r1 r2
      rw [set_eq hc.heap]
      exact ⟨m, ⟨_, rfl, .undef⟩, r1, r2⟩
  · rename_i b' o' hx0
    cases hq : (Nat.beq b' b && Nat.beq o' 0) with
    | false => rw [hq] at hr; simp at hr
    | true =>
    rw [hq] at hr
    simp only [Bool.and_eq_true] at hq
    obtain rfl := Nat.eq_of_beq_eq_true hq.1
    obtain rfl := Nat.eq_of_beq_eq_true hq.2
    simp only [cond_true, Option.some.injEq, Prod.mk.injEq] at hr
    obtain ⟨rfl, rfl⟩ := hr
    refine ⟨hen, hwf, Nat.le_refl _, fun N F m w args' hN hh hgl ha => ?_⟩
    obtain ⟨l, c, v, v', hm, hc, k1, k2, hcs, rfl, g1, g2, g4, g5, g6⟩ := key N F m w args' hN hh ha
    rw [hx0] at g1
    simp only [Option.some.injEq] at g1
    subst g1
    have := ptr_live g4 hm
    subst this
    rw [k2] at g2
    refine (Any.Builder_copyCheck_used L X l.cb w g2).mono ?_
    rintro e w' ⟨rfl, rfl⟩
    exact ⟨m, ⟨_, rfl, .undef⟩, hh, .refl m w'⟩
end Go.AM
end
section
/- A special for a Builder's String: its bytes' row is given up. -/
namespace Go.AM
open Go.Proofs Go.Shelf Go.RowKit
variable {P : Program} {ρ : Ren} {ng : Nat}

set_option maxHeartbeats 2000000 in
set_option maxRecDepth 100000 in
/-- (*strings.Builder).String at a builder that holds bytes. -/
theorem string_calls (L : Lays.n169 P ρ) (X : Builder.Extra P ρ) (b g cap : Nat) (l : List UInt8) (w : World) (h0 : l ≠ []) (hcap : cap ≠ 0) (c1 : w.cell? ⟨b, 1, none⟩ = some (.slice (some ⟨g, 0, none⟩) l.length cap))
    {cells : Nat} (hsh : w.shape? g = some (ρ.t 5, cells)) (hle : l.length ≤ cells) (hmax : l.length ≤ 1000000) (hcell : ∀ j x, l[j]? = some x → w.cell? ⟨g, j, none⟩ = some (.int .u8 x.toNat)) :
    Calls P (ρ.f 169) #[.pointer (some ⟨b, 0, none⟩)] w fun e w' => e = .returned (.string ⟨l.toArray⟩) ∧ w' = w.drew.freeze ⟨g, 0, none⟩ l.length := by
  have c1 : w.drew.cell? ⟨b, 1, none⟩ = some (.slice (some ⟨g, 0, none⟩) l.length cap) := c1
  have hSD : (Builtin.unsafeSliceData_ #[(ρ.t 37)] (ρ.t 127) #[.slice (some ⟨g, 0, none⟩) l.length cap]).run P w.drew = .ok (.pointer (some ⟨g, 0, none⟩)) w.drew :=
    Lib.run_unsafeSliceData_row _ _ _ _ _ _ hcap
  have hUS : (Builtin.unsafeString_ #[(ρ.t 127), (ρ.t 3)] (ρ.t 9) #[.pointer (some ⟨g, 0, none⟩), .int .i64 l.length]).run P w.drew = .ok (.string ⟨l.toArray⟩) (w.drew.freeze ⟨g, 0, none⟩ l.length) := by
    refine Lib.run_unsafeString_row w.drew (ρ.t 127) (ρ.t 3) (ρ.t 9) (ρ.t 5) L.t127 X.cellsByte g cells hsh l h0 hle (by omega) ?_
    intro j x hx
    rw [add_at, Nat.zero_add]
    exact hcell j x hx
  have mixed := L.mixed
  have t72 := L.t72; have a72 := L.a72; have z72 := L.z72; have v72 := L.v72; have u72 := run_underlying L.t72
  have t70 := L.t70; have a70 := L.a70; have z70 := L.z70; have v70 := L.v70; have u70 := run_underlying L.t70
  have t37 := L.t37; have a37 := L.a37; have z37 := L.z37; have v37 := L.v37; have u37 := run_underlying L.t37
  have t127 := L.t127; have a127 := L.a127; have z127 := L.z127; have v127 := L.v127; have u127 := run_underlying L.t127
  have t3 := L.t3; have a3 := L.a3; have z3 := L.z3; have v3 := L.v3; have u3 := run_underlying L.t3
  have t9 := L.t9; have a9 := L.a9; have z9 := L.z9; have v9 := L.v9; have u9 := run_underlying L.t9
  have t5 := X.t5; have a5 := X.a5; have z5 := X.z5; have v5 := X.v5; have u5 := run_underlying X.t5
  go_enter L.f169, Body.n169_ntmps ρ
  go_wp2
  go_region_o
  all_goals (go_wp2; go_ret; exact ⟨rfl, rfl⟩)

noncomputable def byV (v : Value) (r : Option (List UInt8)) : Option (List UInt8) := match v with
  | .int .u8 (.ofNat n) => cond (Nat.blt n 256) (r.map (UInt8.ofNat n :: ·)) none
  | _ => none
noncomputable def byL (l : List Value) : Option (List UInt8) := List.rec (motive := fun _ => Option (List UInt8)) (some []) (fun v _ ih => byV v ih) l
theorem byL_ok {m : Mp} : ∀ {l l' : List Value} {bs : List UInt8}, byL l = some bs → VRels m l l' → bs.length = l.length ∧ ∀ (j : Nat) (x : UInt8), bs[j]? = some x → l'[j]? = some (Value.int .u8 x.toNat) := by
  intro l
  induction l with
  | nil =>
    intro l' bs h _
    simp only [byL, Option.some.injEq] at h
    subst h
    exact ⟨rfl, fun j x hx => by simp at hx⟩
  | cons v r ih =>
    intro l' bs h hl
    have h2 : byV v (byL r) = some bs := h
    clear h
    cases hl with
    | cons _ v' _ r' hv hr =>
    unfold byV at h2
    split at h2 <;> try (simp at h2; done)
    rename_i n
    have h := h2
    cases hn : Nat.blt n 256 with
    | false => rw [hn] at h; simp at h
    | true =>
      rw [hn] at h
      simp only [cond_true] at h
      obtain ⟨bs', h1, rfl⟩ := Option.map_eq_some_iff.1 h
      obtain ⟨i1, i2⟩ := ih h1 hr
      have hn : n < 256 := by simpa [Nat.blt_eq] using hn
      cases hv
      refine ⟨by simp [i1], fun j x hx => ?_⟩
      cases j with
      | zero =>
        simp only [List.getElem?_cons_zero, Option.some.injEq] at hx ⊢
        subst hx
        have : (UInt8.ofNat n).toNat = n := by simp; omega
        rw [this]; rfl
      | succ j => simpa using i2 j x (by simpa using hx)

noncomputable def stF (tb te : Nat) (_ : Caller) (args : List Value) (h : Heap) : Option (Out × Heap) := match args with
  | [.pointer (some ⟨b, off, none⟩)] => cond (Nat.beq off 0) (match h.get b with
    | some (.cells xs n (.bld t)) => cond (Nat.beq t tb && Nat.beq n 2) (match xs.get 1 with
      | some (.slice (some ⟨g, o, none⟩) len cap) => cond (Nat.beq o 0 && Nat.ble 1 len && Nat.ble len cap && Nat.ble len 1000000) (match h.get g with
        | some (.cells ys mm (.own t')) => cond (Nat.beq t' te && Nat.ble len mm) (match byL (loadL ys 0 len) with
          | some bs => some (.ret (.string ⟨bs.toArray⟩), ⟨h.t.set g .dead, h.nx⟩)
          | none => none) none
        | _ => none) none
      | some (.slice none 0 0) => some (.ret (.string ⟨#[]⟩), h)
      | _ => none) none
    | _ => none) none
  | _ => none

theorem stF_ok (L : Lays.n169 P ρ) (X : Builder.Extra P ρ) (hen : Enter P (ρ.f 169)) (cl : Caller) : CallOkAt P ng (ρ.f 169) (stF (ρ.t 72) (ρ.t 5) cl) := by
  intro args h o h' hr hwf
  unfold stF at hr
  split at hr <;> try (simp at hr; done)
  rename_i b off
  cases ho : Nat.beq off 0 with
  | false => rw [ho] at hr; simp at hr
  | true =>
  rw [ho] at hr
  obtain rfl := Nat.eq_of_beq_eq_true ho
  simp only [cond_true] at hr
  split at hr <;> try (simp at hr; done)
  rename_i xs n t hg
  cases ht : (Nat.beq t (ρ.t 72) && Nat.beq n 2) with
  | false => rw [ht] at hr; simp at hr
  | true =>
  rw [ht] at hr
  simp only [Bool.and_eq_true] at ht
  obtain rfl := Nat.eq_of_beq_eq_true ht.1
  obtain rfl := Nat.eq_of_beq_eq_true ht.2
  simp only [cond_true] at hr
  have key : ∀ (N : Nat) (F : Nat → Option Blk) (m : Mp) (w : World) (args' : List Value), h.nx ≤ N → HRel m (mix h N F) w → VRels m [.pointer (some ⟨b, 0, none⟩)] args' →
      ∃ l p v v', m b = .live l ∧ args' = [.pointer (some ⟨l.cb, 0, none⟩)] ∧ xs.get 1 = some v ∧ w.heap[l.cb]? = some (.cells #[p, v'] (ρ.t 72) (0, 0)) ∧ VRel m v v' := by
    intro N F m w args' hN hh ha
    obtain ⟨l, hm, c, el, fr, hc⟩ := hh.cells hwf hN hg
    obtain ⟨k1, k2, k3, k4, k5⟩ : l.rw = true ∧ l.sh = 0 ∧ l.csz = 2 ∧ fr = (0, 0) ∧ el = ρ.t 72 := hc.kind
    subst k4; subst k5
    obtain ⟨v0, v0', _, f2, _, _⟩ := hc.cell 0 (by omega)
    obtain ⟨v, v', g1, g2, _, g4⟩ := hc.cell 1 (by omega)
    rw [k2] at g2 f2
    have hcs : c.size = 2 := by rw [hc.csz, k3]
    have hheap := hc.heap
    cases ha with
    | cons _ a' _ r' ha hr' =>
    cases hr'
    have := ptr_live ha hm
    rw [k2] at this
    refine ⟨l, v0', v, v', hm, by rw [this], g1, ?_, g4⟩
    rw [hheap]
    congr 2
    apply Array.ext_getElem?
    intro i
    match i with
    | 0 => rw [f2]; rfl
    | 1 => rw [g2]; rfl
    | i + 2 => rw [Array.getElem?_eq_none (by omega), Array.getElem?_eq_none (by simp)]
  split at hr <;> try (simp at hr; done)
  · rename_i g o len cap hx1
    cases hq : (Nat.beq o 0 && Nat.ble 1 len && Nat.ble len cap && Nat.ble len 1000000) with
    | false => rw [hq] at hr; simp at hr
    | true =>
    rw [hq] at hr
    simp only [Bool.and_eq_true] at hq
    obtain ⟨⟨⟨q1, q2⟩, q3⟩, q4⟩ := hq
    obtain rfl := Nat.eq_of_beq_eq_true q1
    have q2 := Nat.le_of_ble_eq_true q2
    have q3 := Nat.le_of_ble_eq_true q3
    have q4 := Nat.le_of_ble_eq_true q4
    simp only [cond_true] at hr
    split at hr <;> try (simp at hr; done)
    rename_i ys mm t' hgg
    cases ht : (Nat.beq t' (ρ.t 5) && Nat.ble len mm) with
    | false => rw [ht] at hr; simp at hr
    | true =>
    rw [ht] at hr
    simp only [Bool.and_eq_true] at ht
    obtain rfl := Nat.eq_of_beq_eq_true ht.1
    have hlm := Nat.le_of_ble_eq_true ht.2
    simp only [cond_true] at hr
    split at hr <;> try (simp at hr; done)
    rename_i bs hbs
    simp only [Option.some.injEq, Prod.mk.injEq] at hr
    obtain ⟨rfl, rfl⟩ := hr
    refine ⟨hen, ?_, Nat.le_refl _, fun N F m w args' hN hh hgl ha => ?_⟩
    · intro b' hb'
      have hne : b' ≠ g := by
        intro e; subst e
        have := hwf b' hb'
        rw [this] at hgg; cases hgg
      show (h.t.set g _).get b' = none
      rw [Trie.get_set_ne _ _ hne]
      exact hwf b' hb'
    · have hN' : h.nx ≤ N := hN
      obtain ⟨l, p, v, v', hm, rfl, g1, g2, g4⟩ := key N F m w args' hN' hh ha
      rw [hx1] at g1
      simp only [Option.some.injEq] at g1
      subst g1
      obtain ⟨lg, hmg, c, el, fr, hc⟩ := hh.cells hwf hN' hgg
      obtain ⟨k1, k2, k3, k4, k5⟩ : lg.rw = true ∧ fr = (0, 0) ∧ lg.esz = 1 ∧ el = ρ.t 5 ∧ lg.sh = 0 := hc.kind
      subst k2; subst k4
      have hfit := hc.fit
      have hcsz := hc.csz
      have hrel := (cells_rel hc.cell (k := len) (off := 0) (by omega) (by omega)).1
      obtain ⟨b1, b2⟩ := byL_ok hbs hrel
      rw [length_loadL] at b1
      rcases slice_live g4 hmg with ⟨cap2, hx2, hsr⟩ | ⟨z1, z2, z3, a2, hx2⟩
      · subst hx2
        have hcc : cap ≤ cap2 := by rcases hsr with r | ⟨_, _, _, r⟩ <;> omega
        rw [k5] at g2 b2
        have hcall := string_calls L X l.cb lg.cb cap2 bs w (fun e => by rw [e] at b1; simp at b1; omega) (by omega)
          (by rw [b1]; simp [World.cell?, g2]) (cells := c.size) (by simp [World.shape?, hc.heap]) (by omega) (by omega) (by
            intro j x hx
            rw [cell_at hc.heap]
            have := b2 j x hx
            rw [List.getElem?_take, List.getElem?_drop] at this
            split at this
            · simpa using this
            · cases this)
        refine hcall.mono ?_
        rintro e w' ⟨rfl, rfl⟩
        obtain ⟨r1, r2⟩ := hh.kill hmg k1
        have hheap : ∀ cb, cb ≠ lg.cb → (w.drew.freeze ⟨lg.cb, 0, none⟩ bs.length).heap[cb]? = w.heap[cb]? := by
          intro cb hcb
          unfold World.freeze
          split
          · rfl
          · show (w.heap.modify lg.cb _)[cb]? = _
            rw [Array.getElem?_modify, if_neg (Ne.symm hcb)]
        have hsz : (w.drew.freeze ⟨lg.cb, 0, none⟩ bs.length).heap.size = w.heap.size := by
          unfold World.freeze
          split
          · rfl
          · show (w.heap.modify lg.cb _).size = _
            rw [Array.size_modify]
        have hos : (w.drew.freeze ⟨lg.cb, 0, none⟩ bs.length).os = w.os ∧ (w.drew.freeze ⟨lg.cb, 0, none⟩ bs.length).output = w.output := by
          unfold World.freeze
          split <;> exact ⟨rfl, rfl⟩
        have hro : roB (mix h N F g) = false := roB_rw (hmg ▸ hh.blk g) k1
        have r3 := r1.other (w' := w.drew.freeze ⟨lg.cb, 0, none⟩ bs.length) (by
          intro b' l' hl'
          by_cases e : b' = g
          · simp only [if_pos e] at hl'; cases hl'
          · simp only [if_neg e] at hl'
            exact hheap _ fun e' => e (hh.inj g b' lg l' hmg hl' e'.symm hro).symm)
        refine ⟨_, ⟨_, rfl, .string _⟩, ?_, r2.ext, Nat.le_of_eq hsz.symm, hos.1, hos.2, ?_, r2.new, r2.old⟩
        · have := mix_set h N F .dead h.nx (lt_of_get hwf hN' hgg)
          rw [this]
          exact r3
        · intro cb _ hcb
          exact hheap cb fun e => hcb g lg hmg k1 e.symm
      · omega
  · rename_i hx1
    simp only [Option.some.injEq, Prod.mk.injEq] at hr
    obtain ⟨rfl, rfl⟩ := hr
    refine ⟨hen, hwf, Nat.le_refl _, fun N F m w args' hN hh hgl ha => ?_⟩
    obtain ⟨l, p, v, v', hm, rfl, g1, g2, g4⟩ := key N F m w args' hN hh ha
    rw [hx1] at g1
    simp only [Option.some.injEq] at g1
    subst g1
    cases g4
    refine (Any.Builder_String_nil L X w.heap.size l.cb p w g2).mono ?_
    rintro e w' ⟨rfl, hb⟩
    obtain ⟨q1, q2⟩ := hh.below hb
    exact ⟨m, ⟨_, rfl, .string _⟩, q1, q2⟩
end Go.AM
end
section
/- Special for Index of a text of one byte. -/
namespace Go.AM
open Go.Proofs Go.Shelf Go.RowKit
variable {P : Program} {ρ : Ren} {ng : Nat}
noncomputable def ixoL (s : ByteArray) (l : List UInt8) : Option Value :=
  List.rec (motive := fun _ => Option Value) none (fun b r _ => List.rec (motive := fun _ => Option Value) (some (.int .i64 (idxA s.data.toList b.toNat 0))) (fun _ _ _ => none) r) l
noncomputable def ixoV (args : List Value) : Option Value := match args with
  | [.string s, .string t] => ixoL s t.data.toList
  | _ => none
theorem ixoF_ok (L : Lays.n219 P ρ) (hen : Enter P (ρ.f 219)) (cl : Caller) : CallOkAt P ng (ρ.f 219) (pureF ixoV cl) := by
  refine pureF_ok hen ?_ cl
  intro args r hr
  unfold ixoV at hr
  split at hr <;> try (simp at hr; done)
  rename_i s t
  obtain ⟨⟨l⟩⟩ := t
  match l, hr with
  | [], hr => simp [ixoL] at hr
  | _ :: _ :: _, hr => simp [ixoL] at hr
  | [c], hr =>
    simp only [ixoL, Option.some.injEq] at hr
    subst hr
    refine ⟨rfl, rfl, fun w => (Any.stringslite_Index_one L s c w).mono ?_⟩
    rintro e w' ⟨rfl, rfl⟩
    refine ⟨?_, Below.refl _ _⟩
    rw [idxA_eq s.data.toList c 0]
    show Ending.returned (.int .i64 (Lib.indexByte s.data.toList c)) = _
    congr 2
    by_cases h : Lib.indexByte s.data.toList c = -1
    · rw [if_pos h]; exact h
    · rw [if_neg h]; simp
end Go.AM
end
