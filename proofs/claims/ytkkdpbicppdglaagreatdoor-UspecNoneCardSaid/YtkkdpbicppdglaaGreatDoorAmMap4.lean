/- Loops over maps: that all orders are looked at. -/
import Derived.Test.YtkkdpbicppdglaaGreatDoorAmMap3
import Derived.LoopN
namespace Go.AM
variable {P : Program} {ng nt : Nat} {cl : Caller}

/- ## an iterator that is only looked at -/
/-- the same places; some may be written that could not, or the other way. -/
def Alike (m m' : Mp) : Prop := ∀ b, m' b = m b ∨ ∃ l rw, m b = .live l ∧ m' b = .live { l with rw := rw }
theorem Alike.live {m m' : Mp} (e : Alike m m') {b : Nat} {l : Loc} (h : m b = .live l) : ∃ rw, m' b = .live { l with rw := rw } := by
  rcases e b with h1 | ⟨l0, rw, h1, h2⟩
  · exact ⟨l.rw, h1.trans h⟩
  · rw [h] at h1; cases h1; exact ⟨rw, h2⟩
theorem Alike.dead {m m' : Mp} (e : Alike m m') {b : Nat} (h : m b = .dead) : m' b = .dead := by
  rcases e b with h1 | ⟨l0, rw, h1, h2⟩
  · exact h1.trans h
  · rw [h] at h1; cases h1
theorem Alike.sym {m m' : Mp} (e : Alike m m') {b : Nat} {k : IntKind} {n : Int} (h : m b = .sym k n) : m' b = .sym k n := by
  rcases e b with h1 | ⟨l0, rw, h1, h2⟩
  · exact h1.trans h
  · rw [h] at h1; cases h1
mutual
theorem VRel.same {m m' : Mp} (e : Alike m m') : ∀ {v v' : Value}, VRel m v v' → VRel m' v v'
  | _, _, .bool b => .bool b
  | _, _, .int k n => .int k n
  | _, _, .string s => .string s
  | _, _, .ptrNil => .ptrNil
  | _, _, .ptr b off l h => let ⟨rw, h1⟩ := e.live h; .ptr b off { l with rw := rw } h1
  | _, _, .ptrDead a a' h => .ptrDead a a' (e.dead h)
  | _, _, .sliceNil n c => .sliceNil n c
  | _, _, .slice b off len cap cap' l h hs => let ⟨rw, h1⟩ := e.live h; .slice b off len cap cap' { l with rw := rw } h1 hs
  | _, _, .sliceEnd b off a' l h ho => let ⟨rw, h1⟩ := e.live h; .sliceEnd b off a' { l with rw := rw } h1 ho
  | _, _, .sliceDead a a' len cap cap' h => .sliceDead a a' len cap cap' (e.dead h)
  | _, _, .mapNil => .mapNil
  | _, _, .map r l h => let ⟨rw, h1⟩ := e.live h; .map r { l with rw := rw } h1
  | _, _, .mapDead r r' h => .mapDead r r' (e.dead h)
  | _, _, .func f a b a' b' ha hb => .func f a b a' b' (VRels.same e ha) (VRels.same e hb)
  | _, _, .nilFunc => .nilFunc
  | _, _, .nilIface => .nilIface
  | _, _, .iface t v v' h => .iface t v v' (VRel.same e h)
  | _, _, .agg c c' h1 h => .agg c c' h1 (VRels.same e h)
  | _, _, .tuple c c' h => .tuple c c' (VRels.same e h)
  | _, _, .any v' h1 => .any v' h1
  | _, _, .sym i k n h => .sym i k n (e.sym h)
  | _, _, .top v' => .top v'
theorem VRels.same {m m' : Mp} (e : Alike m m') : ∀ {l l' : List Value}, VRels m l l' → VRels m' l l'
  | _, _, .nil => .nil
  | _, _, .cons v v' r r' h t => .cons v v' r r' (VRel.same e h) (VRels.same e t)
end
theorem MapAt.same {m m' : Mp} {r cbm : Nat} (e : Alike m m') (h : MapAt m r cbm) : MapAt m' r cbm := by
  rcases h with h | ⟨lr, h1, h2⟩
  · exact .inl (e.dead h)
  · obtain ⟨rw, h3⟩ := e.live h1
    exact .inr ⟨_, h3, h2⟩
theorem ERel.same {m m' : Mp} (e : Alike m m') : ∀ {a : List (Value × Value × Nat)} {b : List MapEntry}, ERel m a b → ERel m' a b
  | [], [], _ => trivial
  | _ :: _, _ :: _, ⟨⟨h1, h2, h3, h4⟩, h⟩ => ⟨⟨h1, h2, h3.same e, h4⟩, ERel.same e h⟩
  | [], _ :: _, h => h.elim
  | _ :: _, [], h => h.elim
theorem Alike.sym' {m m' : Mp} (e : Alike m m') {b : Nat} {k : IntKind} {n : Int} (h : m' b = .sym k n) : m b = .sym k n := by
  rcases e b with h1 | ⟨l0, rw, h1, h2⟩
  · rw [← h1]; exact h
  · rw [h2] at h; cases h
theorem IsInt.same {m m' : Mp} (e : Alike m m') {o : Value} {k : IntKind} {b : Int} (h : IsInt m o k b) : IsInt m' o k b := by
  rcases h with h | ⟨j, h, hj⟩
  · exact .inl h
  · exact .inr ⟨j, h, e.sym hj⟩
theorem IsInt.same' {m m' : Mp} (e : Alike m m') {o : Value} {k : IntKind} {b : Int} (h : IsInt m' o k b) : IsInt m o k b := by
  rcases h with h | ⟨j, h, hj⟩
  · exact .inl h
  · exact .inr ⟨j, h, e.sym' hj⟩
theorem Fact.ok.same {m m' : Mp} (e : Alike m m') {k : IntKind} {n : Int} {f : Fact} (h : f.ok m k n) : f.ok m' k n := by
  refine ⟨?_, fun op o res hf => let ⟨k', b, h1⟩ := h.2 op o res hf; ⟨k', b, h1.same e⟩⟩
  obtain ⟨h, _⟩ := h
  cases f with
  | bin op o res => exact fun k' b hb => let ⟨v, h1, h2⟩ := h k' b (hb.same' e); ⟨v, h1, h2.same e⟩
  | nib op o res => exact fun k' b hb => let ⟨v, h1, h2⟩ := h k' b (hb.same' e); ⟨v, h1, h2.same e⟩
  | conv k' res => exact VRel.same e h
  | mm mn k' b res => exact ⟨h.1, VRel.same e h.2⟩
theorem BRel.same {m m' : Mp} {w : World} {s : Stat} {x : Option Blk} (e : Alike m m') (h : BRel m w s x) : BRel m' w s x := by
  cases s with
  | fresh => cases x with
    | none => trivial
    | some x => exact h.elim
  | dead => cases x with
    | none => exact h.elim
    | some x => cases x <;> first | trivial | exact h.elim
  | sym k n => cases x with
    | none => exact h.elim
    | some x => cases x <;> first | trivial | exact h.elim | exact fun f hf => (h f hf).same e
  | live l =>
    cases x with
    | none => exact h.elim
    | some x => cases x with
      | cells xs n k =>
        obtain ⟨h0, c, el, fr, h1, h2, h3, h4, h5⟩ := h
        exact ⟨h0, c, el, fr, h1, h2, h3, h4, fun i hi => let ⟨v, v', a1, a2, a3, a4⟩ := h5 i hi; ⟨v, v', a1, a2, a3, a4.same e⟩⟩
      | map es clk =>
        obtain ⟨h0, ces, h1, h2⟩ := h
        exact ⟨h0, ces, h1, h2.same e⟩
      | str s pos => exact h
      | iter r since seen cur last =>
        obtain ⟨h0, cbm, sa, h1, h2, h3⟩ := h
        exact ⟨h0, cbm, sa, h1, h2.same e, h3⟩
      | look r b last =>
        obtain ⟨h0, cbm, since, sa, h1, h2, h3⟩ := h
        exact ⟨h0, cbm, since, sa, h1, h2.same e, h3⟩
      | tok fs => exact h.elim
      | dead => exact h.elim
theorem ARel.same {m m' : Mp} {E : Tmp → Value} {a : Act} (e : Alike m m') (hr : ARel m E a nt) : ARel m' E a nt := ⟨fun t => (hr.tm t).same e, hr.size, hr.def_⟩

def setLoc (m : Mp) (d : Nat) (l : Loc) : Mp := fun b => if b = d then .live l else m b
theorem setLoc_at {m : Mp} {d : Nat} {l : Loc} : setLoc m d l d = .live l := by simp [setLoc]
theorem setLoc_ne {m : Mp} {d b : Nat} {l : Loc} (h : b ≠ d) : setLoc m d l b = m b := by simp [setLoc, h]
theorem setLoc_same {m : Mp} {d : Nat} {l : Loc} (h : m d = .live l) (rw : Bool) : Alike m (setLoc m d { l with rw := rw }) := fun b => by
  by_cases e : b = d
  · subst e; exact .inr ⟨l, rw, h, setLoc_at⟩
  · exact .inl (setLoc_ne e)
theorem HRel.setLoc {m : Mp} {G : Nat → Option Blk} {w : World} {d : Nat} {l : Loc} {rw : Bool} {x : Blk} (hh : HRel m G w) (h : m d = .live l) (hro : roB (G d) = false) (hx : BRel (setLoc m d { l with rw := rw }) w (.live { l with rw := rw }) (some x)) :
    HRel (AM.setLoc m d { l with rw := rw }) (fun b => if b = d then some x else G b) w := by
  refine ⟨fun b => ?_, fun b b' l1 l2 h1 h2 e hq => ?_⟩
  · by_cases e : b = d
    · subst e; simp only [if_pos]; rw [setLoc_at]; exact hx
    · simp only [if_neg e]; rw [setLoc_ne e]; exact BRel.same (setLoc_same h rw) (hh.blk b)
  · have key : ∀ b l1, AM.setLoc m d { l with rw := rw } b = .live l1 → ∃ l0, m b = .live l0 ∧ l0.cb = l1.cb := by
      intro b l1 h1
      by_cases e : b = d
      · subst e; rw [setLoc_at] at h1; cases h1; exact ⟨l, h, rfl⟩
      · rw [setLoc_ne e] at h1; exact ⟨l1, h1, rfl⟩
    obtain ⟨k1, a1, a2⟩ := key b l1 h1
    obtain ⟨k2, b1, b2⟩ := key b' l2 h2
    refine hh.inj b b' k1 k2 a1 b1 (by rw [a2, b2, e]) ?_
    by_cases e1 : b = d
    · rw [e1]; exact hro
    · simpa only [if_neg e1] using hq

theorem mix_put (h : Heap) (N : Nat) (F : Nat → Option Blk) {d : Nat} (x : Blk) (hd : d < N) : mix (h.put d x) N F = fun b => if b = d then some x else mix h N F b := mix_set h N F x h.nx hd
theorem put_wf {h : Heap} {d : Nat} {x : Blk} (hwf : HWf h) (hd : d < h.nx) : HWf (h.put d x) := fun b hb => by
  have hb : h.nx ≤ b := hb
  show (h.t.set d x).get b = none
  rw [Trie.get_set, if_neg (by omega)]
  exact hwf b hb

/-- One round: the iterator is only looked at while the body runs; behind it, it is where it was. -/
theorem round_look {c2 : Code} {e0 e1 : Env} {h h1 : Heap} {d r since b clk : Nat} {seen : List Nat} (hd : d < h.nx) (hwf : HWf h) (hc : Comes' P ng nt c2 .normal e0 e1 (h.put d (.look r b clk)) h1)
    {N : Nat} {F : Nat → Option Blk} {m : Mp} {w : World} {a : Act} {Q : Exit → Act → World → Prop} (hN : h1.nx ≤ N)
    (hh : HRel m (fun b' => if b' = d then some (.iter r since (seen ++ [b]) (some b) clk) else mix h N F b') w) (hg : GlobOk ng m) (hr : ARel m e0.at a nt)
    (hQ : ∀ m' w' a', HRel m' (fun b' => if b' = d then some (.iter r since (seen ++ [b]) none clk) else mix h1 N F b') w' → Step m w m' w' → ARel m' e1.at a' nt → Q .normal a' w') : c2.wp P Q a w := by
  obtain ⟨a1, a2, a3⟩ := hc (put_wf hwf hd)
  have a2 : h.nx ≤ h1.nx := a2
  have hb := hh.blk d
  simp only [if_pos] at hb
  cases hm : m d with
  | fresh => rw [hm] at hb; exact hb.elim
  | dead => rw [hm] at hb; exact hb.elim
  | sym k n => rw [hm] at hb; exact hb.elim
  | live l =>
  rw [hm] at hb
  obtain ⟨⟨hrw, hsh⟩, cbm, sa, p1, p2, p3, p4⟩ := hb
  have hs1 := setLoc_same hm false
  have hh1 : HRel (setLoc m d { l with rw := false }) (mix (h.put d (.look r b clk)) N F) w := by
    rw [mix_put _ _ _ _ (by omega)]
    have := hh.setLoc (rw := false) (x := .look r b clk) hm (by simp [roB]) ⟨⟨rfl, hsh⟩, cbm, since, sa, p1, p2.same hs1, p4 b rfl⟩
    have e : (fun b' => if b' = d then some (Blk.look r b clk) else if b' = d then some (Blk.iter r since (seen ++ [b]) (some b) clk) else mix h N F b') = fun b' => if b' = d then some (Blk.look r b clk) else mix h N F b' := by
      funext b'
      by_cases e : b' = d
      · rw [if_pos e, if_pos e]
      · rw [if_neg e, if_neg e, if_neg e]
    rw [e] at this
    exact this
  have hg1 : GlobOk ng (setLoc m d { l with rw := false }) := fun g hgl => by
    rcases hg g hgl with ⟨lg, q1, q2, q3, q4⟩ | q1
    · have hne : g ≠ d := fun e => by subst e; rw [hm] at q1; cases q1; rw [hrw] at q4; cases q4
      exact .inl ⟨lg, by rw [setLoc_ne hne]; exact q1, q2, q3, q4⟩
    · have hne : g ≠ d := fun e => by subst e; rw [hm] at q1; cases q1
      exact .inr (by rw [setLoc_ne hne]; exact q1)
  refine a3 N F _ w a Q hN hh1 hg1 (hr.same hs1) ?_
  intro m' w' a' x q1 q2 q3 q4
  have : x = .normal := q4
  subst this
  have hm' : m' d = .live { l with rw := false } := q2.ext.ro setLoc_at rfl
  have hs2 : Alike m' (setLoc m' d l) := setLoc_same hm' l.rw
  have hkeep : w'.heap[l.cb]? = w.heap[l.cb]? := by
    refine q2.keep l.cb (hh.lt hm) ?_
    intro b' l' hb' hr' e
    by_cases e2 : b' = d
    · subst e2; rw [setLoc_at] at hb'; cases hb'; cases hr'
    · rw [setLoc_ne e2] at hb'
      exact e2 (hh.inj d b' l l' hm hb' e.symm (by simp [roB])).symm
  refine hQ (setLoc m' d l) w' a' ?_ ?_ (q3.same hs2)
  · have := q1.setLoc (rw := l.rw) (x := .iter r since (seen ++ [b]) none clk) hm' (roB_obj (hm' ▸ q1.blk d) fun c el fr hc => by have := hkeep.symm.trans hc; rw [p1] at this; cases this) ⟨⟨hrw, hsh⟩, cbm, sa, hkeep.trans p1, ((p2.same hs1).mono q2.ext).same hs2, p3, fun b hb => by cases hb⟩
    exact this
  · refine ⟨fun b' => ?_, q2.size, q2.os, q2.out, fun cb hc hn => q2.keep cb hc fun b' l' hb' hr' => ?_, fun b' l' hb' hr' => ?_, fun b' l' hb' hr' => ?_⟩
    · by_cases e : b' = d
      · subst e; exact .inr (.inl (by rw [setLoc_at, hm]))
      · have := q2.ext b'
        rw [setLoc_ne e] at this ⊢
        exact this
    · by_cases e : b' = d
      · subst e; rw [setLoc_at] at hb'; cases hb'; cases hr'
      · rw [setLoc_ne e] at hb'; exact hn b' l' hb' hr'
    · by_cases e : b' = d
      · subst e; rw [setLoc_at] at hb'; cases hb'; exact .inr ⟨b', l, hm, hrw, rfl⟩
      · rw [setLoc_ne e] at hb'
        rcases q2.new b' l' hb' hr' with g1 | ⟨b0, l0, g1, g2, g3⟩
        · exact .inl g1
        · by_cases e0 : b0 = d
          · subst e0; rw [setLoc_at] at g1; cases g1; cases g2
          · rw [setLoc_ne e0] at g1; exact .inr ⟨b0, l0, g1, g2, g3⟩
    · by_cases e : b' = d
      · subst e; rw [setLoc_at] at hb'; cases hb'; rw [hrw] at hr'; cases hr'
      · rw [setLoc_ne e] at hb'
        have := q2.old b' l' hb' hr'
        rw [setLoc_ne e] at this
        exact this

/- ## what is kept of the temporaries -/
theorem maskT_get : ∀ (t u : Trie Value) (k : Nat) (v : Value), (maskT t u).get k = some v → u.get k = some v := by
  intro t
  induction t with
  | leaf => intro u k v h; exact absurd ((show (Trie.leaf : Trie Value).get k = some v from h).symm.trans (Trie.get_leaf k)) (by simp)
  | node o l r il ir =>
    intro u k v h
    cases u with
    | leaf => exact absurd ((show (Trie.leaf : Trie Value).get k = some v from h).symm.trans (Trie.get_leaf k)) (by simp)
    | node o' l' r' =>
      have h' : (Trie.node (Option.rec none (fun _ => o') o) (maskT l l') (maskT r r')).get k = some v := h
      cases k with
      | zero =>
        rw [Trie.get_zero] at h' ⊢
        cases o with
        | none => cases h'
        | some x => exact h'
      | succ k =>
        rw [Trie.get_succ] at h' ⊢
        by_cases e : k % 2 = 0
        · rw [if_pos e] at h' ⊢; exact il _ _ _ h'
        · rw [if_neg e] at h' ⊢; exact ir _ _ _ h'
theorem coreEnv_ok {m : Mp} {e0 e1 : Env} {tup okT : Tmp} {a : Act} (hr : ARel m e1.at a nt) : ARel m (coreEnv e0 tup okT e1).at a nt :=
  ⟨fun t => by
    have h1 := hr.tm t
    rw [Env.at_eq] at h1 ⊢
    cases hv : (coreEnv e0 tup okT e1).get t with
    | none => exact .top _
    | some v =>
      have hv' : (((maskT e0 e1).set tup topV).set okT topV).get t = some v := hv
      rw [Trie.get_set] at hv'
      split at hv'
      · cases hv'; exact .top _
      · rw [Trie.get_set] at hv'
        split at hv'
        · cases hv'; exact .top _
        · rw [maskT_get _ _ _ _ hv'] at h1
          exact h1, hr.size, hr.def_⟩

/- ## the table -/
theorem beqH_ok {a b : Heap} (h : beqH a b = true) : a = b := by
  simp only [beqH, Bool.and_eq_true] at h
  obtain ⟨t, n⟩ := a
  obtain ⟨t', n'⟩ := b
  have h1 : n = n' := Nat.eq_of_beq_eq_true h.1
  have h2 : t = t' := beqTB_eq _ _ h.2
  rw [h1, h2]
theorem beqC_ok {a b : Core} (h : beqC a b = true) : a = b := by
  simp only [beqC, Bool.and_eq_true] at h
  obtain ⟨e, t, n⟩ := a
  obtain ⟨e', t', n'⟩ := b
  have h1 : n = n' := Nat.eq_of_beq_eq_true h.1.1
  have h2 : e = e' := beqT_eq _ _ h.1.2
  have h3 : t = t' := beqH_ok h.2
  rw [h1, h2, h3]
theorem findC_ok {c : Core} : ∀ {l : List Core} {i k : Nat}, findC c l i = some k → ∃ j, k = i + j ∧ l[j]? = some c
  | [], _, _, h => by simp [findC] at h
  | x :: l, i, k, h => by
    rw [findC] at h
    cases hb : beqC c x with
    | true =>
      rw [hb] at h
      simp only [Option.some.injEq] at h
      exact ⟨0, by omega, by rw [beqC_ok hb]; rfl⟩
    | false =>
      rw [hb] at h
      obtain ⟨j, h1, h2⟩ := findC_ok h
      exact ⟨j + 1, by omega, by simpa using h2⟩
/-- what a row says. -/
def RowRel (f : Value × Value × Nat → Option Core) (known : List Core) : List (Value × Value × Nat) → List (Nat × Option Nat) → Prop
  | [], [] => True
  | x :: l, y :: r => (y.1 = x.2.2 ∧ ∀ q, y.2 = some q → ∃ c, f x = some c ∧ known[q]? = some c) ∧ RowRel f known l r
  | _, _ => False
theorem RowRel.mono {f : Value × Value × Nat → Option Core} {known : List Core} (more : List Core) : ∀ {l : List (Value × Value × Nat)} {r : List (Nat × Option Nat)}, RowRel f known l r → RowRel f (known ++ more) l r
  | [], [], _ => trivial
  | _ :: _, _ :: _, ⟨⟨h1, h2⟩, h3⟩ => ⟨⟨h1, fun q hq => let ⟨c, a1, a2⟩ := h2 q hq; ⟨c, a1, by rw [List.getElem?_append_left (List.getElem?_eq_some_iff.1 a2).1]; exact a2⟩⟩, h3.mono more⟩
  | [], _ :: _, h => h.elim
  | _ :: _, [], h => h.elim
theorem RowRel.mem {f : Value × Value × Nat → Option Core} {known : List Core} : ∀ {l : List (Value × Value × Nat)} {r : List (Nat × Option Nat)}, RowRel f known l r → ∀ x ∈ l, ∃ y ∈ r, y.1 = x.2.2 ∧ ∀ q, y.2 = some q → ∃ c, f x = some c ∧ known[q]? = some c
  | [], _, _, x, hx => by simp at hx
  | z :: l, y :: r, ⟨h1, h3⟩, x, hx => by
    rcases List.mem_cons.1 hx with rfl | hx
    · exact ⟨y, by simp, h1⟩
    · obtain ⟨y', a1, a2⟩ := h3.mem x hx
      exact ⟨y', by simp [a1], a2⟩
  | _ :: _, [], h, _, _ => h.elim
theorem RowRel.mem' {f : Value × Value × Nat → Option Core} {known : List Core} : ∀ {l : List (Value × Value × Nat)} {r : List (Nat × Option Nat)}, RowRel f known l r → ∀ y ∈ r, ∃ x ∈ l, y.1 = x.2.2
  | _, [], _, y, hy => by simp at hy
  | z :: l, y :: r, ⟨h1, h3⟩, x, hx => by
    rcases List.mem_cons.1 hx with rfl | hx
    · exact ⟨z, by simp, h1.1⟩
    · obtain ⟨y', a1, a2⟩ := h3.mem' x hx
      exact ⟨y', by simp [a1], a2⟩
  | [], _ :: _, h, _, _ => h.elim
theorem rowC_ok {f : Value × Value × Nat → Option Core} : ∀ (l : List (Value × Value × Nat)) (known : List Core), (∃ more, (rowC f l known).2 = known ++ more) ∧ RowRel f (rowC f l known).2 l (rowC f l known).1
  | [], known => ⟨⟨[], by simp [rowC]⟩, trivial⟩
  | x :: l, known => by
    rw [rowC]
    split
    · rename_i hf
      obtain ⟨h1, h2⟩ := rowC_ok (f := f) l known
      exact ⟨h1, ⟨rfl, fun q hq => by cases hq⟩, h2⟩
    · rename_i c hf
      split
      · rename_i i hi
        obtain ⟨⟨more, h1⟩, h2⟩ := rowC_ok (f := f) l known
        refine ⟨⟨more, h1⟩, ⟨rfl, fun q hq => ?_⟩, h2⟩
        cases hq
        obtain ⟨j, g1, g2⟩ := findC_ok hi
        refine ⟨c, hf, ?_⟩
        show (rowC f l known).2[i]? = some c
        rw [h1, show i = j by omega, List.getElem?_append_left (List.getElem?_eq_some_iff.1 g2).1]
        exact g2
      · obtain ⟨⟨more, h1⟩, h2⟩ := rowC_ok (f := f) l (known ++ [c])
        refine ⟨⟨[c] ++ more, by show (rowC f l (known ++ [c])).2 = _; rw [h1]; simp⟩, ⟨rfl, fun q hq => ?_⟩, h2⟩
        cases hq
        refine ⟨c, hf, ?_⟩
        show (rowC f l (known ++ [c])).2[known.length]? = some c
        rw [h1]
        simp
section
variable {eng : Code → Env → Heap → Res} {it tup okT : Tmp} {c2 : Code} {e0 : Env} {d r since : Nat}
def GoodAt (eng : Code → Env → Heap → Res) (it tup okT : Tmp) (c2 : Code) (e0 : Env) (d r since : Nat) (known : List Core) (c : Core) (row : List (Nat × Option Nat)) : Prop :=
  ∃ es clk, coreEs it d r since c = some (es, clk) ∧ RowRel (stepCore eng tup okT c2 e0 d r clk c) known es row
theorem closeC_ok : ∀ (n : Nat) (known : List Core) (j : Nat) (rows : List (List (Nat × Option Nat))) (K : List Core) (R : List (List (Nat × Option Nat))), closeC eng it tup okT c2 e0 d r since n known j rows = some (K, R) → rows.length = j →
    (∀ (i : Nat) (row : List (Nat × Option Nat)), rows[i]? = some row → ∃ c, known[i]? = some c ∧ GoodAt eng it tup okT c2 e0 d r since known c row) →
    (∃ more, K = known ++ more) ∧ ∀ (i : Nat) (row : List (Nat × Option Nat)), R[i]? = some row → ∃ c, K[i]? = some c ∧ GoodAt eng it tup okT c2 e0 d r since K c row := by
  intro n
  induction n with
  | zero => intro known j rows K R h; simp [closeC] at h
  | succ n ih =>
    intro known j rows K R h hl hg
    have h : (match known[j]? with
      | none => some (known, rows)
      | some c => match coreEs it d r since c with
        | none => none
        | some x => closeC eng it tup okT c2 e0 d r since n (rowC (stepCore eng tup okT c2 e0 d r x.2 c) x.1 known).2 (Nat.succ j) (rows ++ [(rowC (stepCore eng tup okT c2 e0 d r x.2 c) x.1 known).1])) = some (K, R) := h
    split at h
    · simp only [Option.some.injEq, Prod.mk.injEq] at h
      obtain ⟨rfl, rfl⟩ := h
      exact ⟨⟨[], by simp⟩, hg⟩
    · rename_i c hc
      split at h <;> try (simp at h; done)
      rename_i x hx
      obtain ⟨es, clk⟩ := x
      obtain ⟨⟨more, h1⟩, h2⟩ := rowC_ok (f := stepCore eng tup okT c2 e0 d r clk c) es known
      obtain ⟨⟨more2, g1⟩, g2⟩ := ih _ _ _ _ _ h (by simp [hl]) (by
        intro i row hr
        rw [h1]
        by_cases hi : i < rows.length
        · rw [List.getElem?_append_left hi] at hr
          obtain ⟨c', a1, es', clk', a2, a3⟩ := hg i row hr
          exact ⟨c', by rw [List.getElem?_append_left (List.getElem?_eq_some_iff.1 a1).1]; exact a1, es', clk', a2, a3.mono more⟩
        · rw [List.getElem?_append_right (by omega)] at hr
          have hi' : i = j := by
            have := (List.getElem?_eq_some_iff.1 hr).1
            simp at this
            omega
          subst hi'
          rw [show i - rows.length = 0 by omega] at hr
          simp only [List.getElem?_cons_zero, Option.some.injEq] at hr
          subst hr
          refine ⟨c, by rw [List.getElem?_append_left (List.getElem?_eq_some_iff.1 hc).1]; exact hc, es, clk, hx, ?_⟩
          rw [← h1]
          exact h2)
      refine ⟨⟨more ++ more2, ?_⟩, g2⟩
      rw [g1, h1]
      simp
end

/- ## sets -/
theorem hasB_eq (S b : Nat) : hasB S b = Nat.testBit S b := by
  unfold hasB Nat.testBit
  show Nat.beq (S >>> b &&& 1) 1 = (1 &&& S >>> b != 0)
  rw [Nat.and_comm 1, Nat.and_one_is_mod]
  rcases Nat.mod_two_eq_zero_or_one (S >>> b) with h | h <;> rw [h] <;> rfl
theorem hasB_add (S b x : Nat) : hasB (addB S b) x = true ↔ x = b ∨ hasB S x = true := by
  rw [hasB_eq, hasB_eq]
  show Nat.testBit (S ||| 2 ^ b) x = true ↔ _
  rw [Nat.testBit_or, Bool.or_eq_true, Nat.testBit_two_pow, decide_eq_true_eq]
  constructor
  · rintro (h | h)
    · exact .inr h
    · exact .inl h.symm
  · rintro (h | h)
    · exact .inr h.symm
    · exact .inl h
theorem goS_ok {S : Nat} : ∀ {row : List (Nat × Option Nat)} {a : List (Nat × Nat)}, goS S row = some a → (∀ y ∈ row, hasB S y.1 = false → ∃ q, y.2 = some q ∧ (q, addB S y.1) ∈ a) ∧ (a = [] → ∀ y ∈ row, hasB S y.1 = true) ∧ (a ≠ [] → ∃ y ∈ row, hasB S y.1 = false)
  | [], a, h => by
    simp only [goS, Option.some.injEq] at h
    subst h
    simp
  | x :: l, a, h => by
    rw [goS] at h
    cases hb : hasB S x.1 with
    | true =>
      rw [hb] at h
      obtain ⟨h1, h2, h3⟩ := goS_ok (show goS S l = some a from h)
      refine ⟨fun y hy hn => ?_, fun ha y hy => ?_, fun ha => ?_⟩
      · rcases List.mem_cons.1 hy with rfl | hy
        · rw [hb] at hn; cases hn
        · exact h1 y hy hn
      · rcases List.mem_cons.1 hy with rfl | hy
        · exact hb
        · exact h2 ha y hy
      · obtain ⟨y, a1, a2⟩ := h3 ha
        exact ⟨y, by simp [a1], a2⟩
    | false =>
      rw [hb] at h
      have h : (match x.2 with
        | some i => match goS S l with
          | some r => some ((i, addB S x.1) :: r)
          | none => none
        | none => none) = some a := h
      split at h <;> try (simp at h; done)
      rename_i i hi
      split at h <;> try (simp at h; done)
      rename_i r hr
      simp only [Option.some.injEq] at h
      subst h
      obtain ⟨h1, _, _⟩ := goS_ok hr
      refine ⟨fun y hy hn => ?_, fun ha => by simp at ha, fun _ => ⟨x, by simp, hb⟩⟩
      rcases List.mem_cons.1 hy with rfl | hy
      · exact ⟨i, hi, by simp⟩
      · obtain ⟨q, a1, a2⟩ := h1 y hy hn
        exact ⟨q, a1, by simp [a2]⟩
theorem goAll_ok {rows : List (List (Nat × Option Nat))} : ∀ {l : List (Nat × Nat)} {ll : List (List (Nat × Nat))}, goAll rows l = some ll → ∀ s ∈ l, ∃ row a, rows[s.1]? = some row ∧ goS s.2 row = some a ∧ a ∈ ll
  | [], _, _, s, hs => by simp at hs
  | x :: l, ll, h, s, hs => by
    rw [goAll] at h
    split at h <;> try (simp at h; done)
    rename_i row hrow
    split at h <;> try (simp at h; done)
    rename_i a ha
    split at h <;> try (simp at h; done)
    rename_i b hb
    simp only [Option.some.injEq] at h
    subst h
    rcases List.mem_cons.1 hs with rfl | hs
    · exact ⟨row, a, hrow, ha, by simp⟩
    · obtain ⟨row', a', g1, g2, g3⟩ := goAll_ok hb s hs
      exact ⟨row', a', g1, g2, by simp [g3]⟩
theorem memS_ok {s : Nat × Nat} {l : List (Nat × Nat)} (h : memS s l = true) : s ∈ l := by
  unfold memS at h
  rw [List.any_eq_true] at h
  obtain ⟨t, ht, h⟩ := h
  simp only [Bool.and_eq_true] at h
  have h1 : s.2 = t.2 := Nat.eq_of_beq_eq_true h.1
  have h2 : s.1 = t.1 := Nat.eq_of_beq_eq_true h.2
  have : s = t := by
    obtain ⟨s1, s2⟩ := s
    obtain ⟨t1, t2⟩ := t
    simp only at h1 h2
    rw [h1, h2]
  exact this ▸ ht
theorem dedup_ok : ∀ (l acc : List (Nat × Nat)) (s : Nat × Nat), s ∈ l ∨ s ∈ acc → s ∈ dedup l acc
  | [], acc, s, h => by rcases h with h | h; (simp at h); exact h
  | x :: l, acc, s, h => by
    rw [dedup]
    cases hm : memS x acc with
    | true =>
      show s ∈ dedup l acc
      refine dedup_ok l acc s ?_
      rcases h with h | h
      · rcases List.mem_cons.1 h with rfl | h
        · exact .inr (memS_ok hm)
        · exact .inl h
      · exact .inr h
    | false =>
      show s ∈ dedup l (x :: acc)
      refine dedup_ok l (x :: acc) s ?_
      rcases h with h | h
      · rcases List.mem_cons.1 h with rfl | h
        · exact .inr (by simp)
        · exact .inl h
      · exact .inr (by simp [h])

/- ## the loop -/
theorem mapLoopOf_ok {body : Code} {it tup okT : Tmp} {c2 : Code} (h : mapLoopOf body = some (it, tup, okT, c2)) :
    ∃ id nx ex, body = .seq (.region id #[nx, ex] false) c2 ∧ nx.op = .next (.tmp it) false ∧ nx.dst = some tup ∧ nx.guard = none ∧ ex.op = .extract (.tmp tup) 0 ∧ ex.dst = some okT ∧ ex.guard = none := by
  unfold mapLoopOf at h
  split at h <;> try (simp at h; done)
  rename_i id ops c2'
  split at h <;> try (simp at h; done)
  rename_i nx ex hops
  split at h <;> try (simp at h; done)
  rename_i it' hnx
  split at h <;> try (simp at h; done)
  rename_i tup1 tup2 okT' h1 h2 h3 h4 h5
  split at h <;> try (simp at h; done)
  rename_i he
  simp only [Option.some.injEq, Prod.mk.injEq] at h
  obtain ⟨rfl, rfl, rfl, rfl⟩ := h
  have he := Nat.eq_of_beq_eq_true he
  subst he
  refine ⟨id, nx, ex, ?_, hnx, h1, h2, h3, h4, h5⟩
  congr 2
  exact Array.ext' (by rw [hops])

/-- a loop that is to be taken up to n times. -/
def Rounds' (P : Program) (ng nt : Nat) (c : Code) (n : Nat) (ex : AExit) (e e' : Env) (h h' : Heap) : Prop :=
  HWf h → HWf h' ∧ h.nx ≤ h'.nx ∧ ∀ (N : Nat) (F : Nat → Option Blk) (m : Mp) (w : World) (a : Act) (Q : Exit → Act → World → Prop), h'.nx ≤ N → HRel m (mix h N F) w → GlobOk ng m → ARel m e.at a nt →
    (∀ m' w' a' x, HRel m' (mix h' N F) w' → Step m w m' w' → ARel m' e'.at a' nt → XRel m' ex x → Q x a' w') → Code.rounds P c Q n a w
theorem XRel.not_normal {m : Mp} {x : Exit} {ex : AExit} (hx : XRel m ex x) (hn : ex ≠ .normal) : x ≠ .normal := by
  cases ex with
  | normal => exact absurd rfl hn
  | ret => have : x = .ret := hx; subst this; simp
  | exit id => have : x = .exit id := hx; subst this; simp
  | goto l => have : x = .goto l := hx; subst this; simp
  | pan v => obtain ⟨v', hx, _⟩ := (hx : ∃ v', x = .panic [{ v := v', recovered := false }] ∧ VRel m v v'); subst hx; simp
theorem then_of_not {K : Act → World → Prop} {Q : Exit → Act → World → Prop} {x : Exit} {a : Act} {w : World} (hx : x ≠ .normal) (h : Q x a w) : Exit.then K Q x a w := by
  cases x with
  | normal => exact absurd rfl hx
  | _ => exact h

theorem coreEs_ok {it : Tmp} {d r since : Nat} {c : Core} {es : List (Value × Value × Nat)} {clk : Nat} (h : coreEs it d r since c = some (es, clk)) :
    c.1.at it = .pointer (some ⟨d, 0, none⟩) ∧ c.2.1.get r = some (.map es clk) ∧ since ≤ c.2.2 ∧ d < c.2.1.nx ∧ r ≠ d ∧ ∀ x ∈ es, x.2.2 < since := by
  unfold coreEs at h
  split at h <;> try (simp at h; done)
  rename_i d' hit
  split at h <;> try (simp at h; done)
  rename_i es' clk' hm
  cases hc : (Nat.beq d' d && Nat.ble since c.2.2 && Nat.blt d c.2.1.nx && !(Nat.beq r d) && es'.all (fun x => Nat.blt x.2.2 since)) with
  | false => rw [hc] at h; simp at h
  | true =>
    rw [hc] at h
    simp only [cond_true, Option.some.injEq, Prod.mk.injEq] at h
    obtain ⟨rfl, rfl⟩ := h
    simp only [Bool.and_eq_true, List.all_eq_true] at hc
    obtain ⟨⟨⟨⟨h1, h2⟩, h3⟩, h4⟩, h5⟩ := hc
    have h1 := Nat.eq_of_beq_eq_true h1
    subst h1
    refine ⟨hit, hm, Nat.le_of_ble_eq_true h2, by simpa [Nat.blt_eq] using h3, ?_, fun x hx => by simpa [Nat.blt_eq] using h5 x hx⟩
    intro e
    subst e
    rw [Nat.beq_refl] at h4
    cases h4

section
variable {eng : Code → Env → Heap → Res} {it tup okT : Tmp} {c2 : Code} {e0 : Env} {d r since : Nat}
theorem stage_ok (heng : ∀ c e e' h h' ex, codeOk ng nt c = true → eng c e h = some (ex, e', h') → Comes' P ng nt c ex e e' h h') {id : Nat} {nx exo : Oper} (hnx : nx.op = .next (.tmp it) false) (hnd : nx.dst = some tup) (hng : nx.guard = none)
    (hex : exo.op = .extract (.tmp tup) 0) (hed : exo.dst = some okT) (heg : exo.guard = none) (ok1 : opersOk ng nt nx = true) (ok2 : opersOk ng nt exo = true) (ok3 : codeOk ng nt c2 = true)
    {K : List Core} {R : List (List (Nat × Option Nat))} (hR : ∀ (i : Nat) (row : List (Nat × Option Nat)), R[i]? = some row → ∃ c, K[i]? = some c ∧ GoodAt eng it tup okT c2 e0 d r since K c row)
    {f : Nat} {cf : Core} (hf : K[f]? = some cf) {ex : AExit} {e' : Env} {h' : Heap} (hrun : eng c2 ((cf.1.put (some tup) (.tuple #[.bool false])).put (some okT) (.bool false)) (cf.2.1.put d .dead) = some (ex, e', h')) (hne : ex ≠ .normal) :
    ∀ (n : Nat) (L : List (Nat × Nat)), stage R n L = some f → ∀ i S, (i, S) ∈ L → ∀ c, K[i]? = some c → ∀ seen : List Nat, (∀ x, x ∈ seen ↔ hasB S x = true) → HWf c.2.1 →
      HWf h' ∧ c.2.1.nx ≤ h'.nx ∧ ∀ (N : Nat) (F : Nat → Option Blk) (m : Mp) (w : World) (a : Act) (Q : Exit → Act → World → Prop), h'.nx ≤ N → HRel m (fun b => if b = d then some (.iter r since seen none c.2.2) else mix c.2.1 N F b) w → GlobOk ng m → ARel m c.1.at a nt →
        (∀ m' w' a' x, HRel m' (mix h' N F) w' → Step m w m' w' → ARel m' e'.at a' nt → XRel m' ex x → Q x a' w') → Code.rounds P (.seq (.region id #[nx, exo] false) c2) Q n a w := by
  intro n
  induction n with
  | zero => intro L h; simp [stage] at h
  | succ n ih =>
    intro L h i S hiS c hc seen hseen hwf
    replace h : (match (generalizing := false) goAll R L with
      | none => none
      | some ll => (Bool.rec (Bool.rec (stage R n (dedup ll.flatten [])) none (ll.any List.isEmpty)) (match (generalizing := false) L with
          | [s] => some s.1
          | _ => none) (ll.all List.isEmpty) : Option Nat)) = some f := h
    split at h <;> try (simp at h; done)
    rename_i ll hll
    obtain ⟨row, al, hrow, hal, hmem⟩ := goAll_ok hll (i, S) hiS
    obtain ⟨c', hc', es, clk, hes, hrel⟩ := hR i row hrow
    have : c' = c := by rw [hc] at hc'; cases hc'; rfl
    subst this
    obtain ⟨hit, hmap, hsl, hd, hrd, hold⟩ := coreEs_ok hes
    obtain ⟨g1, g2, g3⟩ := goS_ok hal
    have hwfS : HWf (c'.2.1.put d (.iter r since seen none c'.2.2)) := put_wf hwf hd
    have hgd : (c'.2.1.put d (.iter r since seen none c'.2.2)).get d = some (.iter r since seen none c'.2.2) := Trie.get_set_same _ _ _
    have hgr : (c'.2.1.put d (.iter r since seen none c'.2.2)).get r = some (.map es clk) := by
      show (c'.2.1.t.set d _).get r = _
      rw [Trie.get_set_ne _ _ hrd]; exact hmap
    have nots : ∀ b, b ∉ seen → hasB S b = false := fun b hb => by rw [← Bool.not_eq_true]; exact fun hh => hb ((hseen b).2 hh)
    cases hall : ll.all List.isEmpty with
    | true =>
      rw [hall] at h
      simp only at h
      have hae : al = [] := by simpa using List.all_eq_true.1 hall al hmem
      split at h <;> try (simp at h; done)
      rename_i s
      simp only [Option.some.injEq] at h
      have hs : (i, S) = s := by simpa using hiS
      have hi : i = f := by rw [← h, ← hs]
      subst hi
      have : cf = c' := by rw [hc] at hf; cases hf; rfl
      subst this
      have h1c := heng _ _ _ _ _ _ ok3 hrun
      obtain ⟨a1, a2, a3⟩ := h1c (put_wf hwf hd)
      refine ⟨a1, a2, fun N F m w a Q hN hh hg har hQ => ?_⟩
      have a2 : cf.2.1.nx ≤ h'.nx := a2
      rw [rounds_succ]
      refine mapStep_wp hnx hnd hng hex hed heg ok1 ok2 hwfS hit hsl hgd hgr hold (show cf.2.1.nx ≤ N by omega) (by rw [mix_put _ _ _ _ (by omega)]; exact hh) hg har ?_ ?_
      · intro x hx hns
        obtain ⟨y, y1, y2, _⟩ := hrel.mem x hx
        have := g2 hae y y1
        rw [y2, nots _ hns] at this
        cases this
      · intro _ m' w' a' q1 q2 q3
        rw [mix_put _ _ _ _ (by omega)] at q1
        have hb := q1.blk d
        simp only [if_pos] at hb
        cases hm : m' d with
        | fresh => rw [hm] at hb; exact hb.elim
        | dead => rw [hm] at hb; exact hb.elim
        | sym k n => rw [hm] at hb; exact hb.elim
        | live l =>
          rw [hm] at hb
          obtain ⟨k1, k2⟩ := q1.kill hm hb.1.1
          have e : (fun b' => if b' = d then some Blk.dead else if b' = d then some (Blk.iter r since seen none cf.2.2) else mix cf.2.1 N F b') = mix (cf.2.1.put d .dead) N F := by
            rw [mix_put _ _ _ _ (by omega)]
            funext b'
            by_cases e : b' = d
            · rw [if_pos e, if_pos e]
            · rw [if_neg e, if_neg e, if_neg e]
          rw [e] at k1
          refine a3 N F _ w' a' _ hN k1 (hg.mono (q2.trans k2).ext) (q3.mono k2.ext) ?_
          intro m2 w2 a2' x p1 p2 p3 p4
          exact then_of_not (p4.not_normal hne) (hQ m2 w2 a2' x p1 ((q2.trans k2).trans p2) p3 p4)
    | false =>
      rw [hall] at h
      simp only at h
      cases hany : ll.any List.isEmpty with
      | true => rw [hany] at h; simp at h
      | false =>
        rw [hany] at h
        simp only at h
        have hane : al ≠ [] := fun he => by
          rw [← Bool.not_eq_true, List.any_eq_true] at hany
          exact hany ⟨al, hmem, by simp [he]⟩
        obtain ⟨y0, hy0, hb0⟩ := g3 hane
        obtain ⟨x0, hx0, hxy0⟩ := hrel.mem' y0 hy0
        have step : ∀ x ∈ es, hasB S x.2.2 = false → ∃ (e1 : Env) (h1 : Heap), eng c2 ((c'.1.put (some tup) (.tuple #[.bool true, x.1, x.2.1])).put (some okT) (.bool true)) (c'.2.1.put d (.look r x.2.2 clk)) = some (.normal, e1, h1) ∧
            (HWf h1 → d < h1.nx → HWf h' ∧ h1.nx ≤ h'.nx ∧ ∀ (N : Nat) (F : Nat → Option Blk) (m : Mp) (w : World) (a : Act) (Q : Exit → Act → World → Prop), h'.nx ≤ N → HRel m (fun b => if b = d then some (.iter r since (seen ++ [x.2.2]) none clk) else mix h1 N F b) w → GlobOk ng m → ARel m e1.at a nt →
              (∀ m' w' a' x, HRel m' (mix h' N F) w' → Step m w m' w' → ARel m' e'.at a' nt → XRel m' ex x → Q x a' w') → Code.rounds P (.seq (.region id #[nx, exo] false) c2) Q n a w) := by
          intro x hx hns
          obtain ⟨y, y1, y2, y3⟩ := hrel.mem x hx
          obtain ⟨q, q1, q2⟩ := g1 y y1 (by rw [y2]; exact hns)
          obtain ⟨cn, cn1, cn2⟩ := y3 q q1
          unfold stepCore at cn1
          split at cn1 <;> try (simp at cn1; done)
          rename_i e1 h1 he
          simp only [Option.some.injEq] at cn1
          subst cn1
          refine ⟨e1, h1, he, fun hwf1 hd1 => ?_⟩
          obtain ⟨b1, b2, b3⟩ := ih _ h q (addB S y.1) (dedup_ok _ _ _ (.inl (List.mem_flatten.2 ⟨al, hmem, q2⟩))) _ cn2 (seen ++ [x.2.2]) (fun z => by
            rw [hasB_add, y2, List.mem_append, hseen]
            constructor
            · rintro (h | h)
              · exact .inr h
              · exact .inl (by simpa using h)
            · rintro (h | h)
              · exact .inr (by simpa using h)
              · exact .inl h) (put_wf hwf1 hd1)
          refine ⟨b1, b2, fun N F m w a Q hN hh hg har hQ => b3 N F m w a Q hN ?_ hg (coreEnv_ok har) hQ⟩
          have b2 : h1.nx ≤ h'.nx := b2
          show HRel m (fun b => if b = d then some (.iter r since (seen ++ [x.2.2]) none clk) else mix (h1.put d .dead) N F b) w
          rw [mix_put _ _ _ _ (by omega)]
          have e : (fun b => if b = d then some (Blk.iter r since (seen ++ [x.2.2]) none clk) else if b = d then some Blk.dead else mix h1 N F b) = fun b => if b = d then some (.iter r since (seen ++ [x.2.2]) none clk) else mix h1 N F b := by
            funext b'
            by_cases e : b' = d
            · rw [if_pos e, if_pos e]
            · rw [if_neg e, if_neg e, if_neg e]
          rw [e]
          exact hh
        have gen : HWf h' ∧ c'.2.1.nx ≤ h'.nx := by
          obtain ⟨e1, h1, s1, s2⟩ := step x0 hx0 (by rw [← hxy0]; exact hb0)
          obtain ⟨a1, a2, _⟩ := heng _ _ _ _ _ _ ok3 s1 (put_wf hwf hd)
          have a2 : c'.2.1.nx ≤ h1.nx := a2
          obtain ⟨b1, b2, _⟩ := s2 a1 (by omega)
          exact ⟨b1, by omega⟩
        refine ⟨gen.1, gen.2, fun N F m w a Q hN hh hg har hQ => ?_⟩
        have hnn := gen.2
        rw [rounds_succ]
        refine mapStep_wp hnx hnd hng hex hed heg ok1 ok2 hwfS hit hsl hgd hgr hold (show c'.2.1.nx ≤ N by omega) (by rw [mix_put _ _ _ _ (by omega)]; exact hh) hg har ?_ ?_
        · intro x hx hns m' w' a' p1 p2 p3
          obtain ⟨e1, h1, s1, s2⟩ := step x hx (nots _ hns)
          have hc1 := heng _ _ _ _ _ _ ok3 s1
          obtain ⟨a1, a2, _⟩ := hc1 (put_wf hwf hd)
          have a2 : c'.2.1.nx ≤ h1.nx := a2
          obtain ⟨b1, b2, b3⟩ := s2 a1 (by omega)
          refine round_look (seen := seen) (since := since) hd hwf hc1 (by omega) (N := N) (F := F) (m := m') ?_ (hg.mono p2.ext) p3 ?_
          · have e : mix (stepIt (c'.2.1.put d (.iter r since seen none c'.2.2)) d r since seen x.2.2 clk) N F = fun b' => if b' = d then some (Blk.iter r since (seen ++ [x.2.2]) (some x.2.2) clk) else mix c'.2.1 N F b' := by
              show mix ((c'.2.1.put d (.iter r since seen none c'.2.2)).put d (.iter r since (seen ++ [x.2.2]) (some x.2.2) clk)) N F = _
              rw [mix_put _ _ _ _ (by omega), mix_put _ _ _ _ (by omega)]
              funext b'
              by_cases e : b' = d
              · rw [if_pos e, if_pos e]
              · simp only [if_neg e]
            rw [e] at p1
            exact p1
          · intro m2 w2 a2' q1 q2 q3
            refine b3 N F m2 w2 a2' Q hN q1 (hg.mono (p2.trans q2).ext) q3 ?_
            intro m3 w3 a3' x' q5 q6 q7 q8
            exact hQ m3 w3 a3' x' q5 ((p2.trans q2).trans q6) q7 q8
        · intro hend
          have := (hseen _).1 (hend x0 hx0)
          rw [← hxy0, hb0] at this
          cases this
end

theorem explore_ok {eng : Code → Env → Heap → Res} (heng : ∀ c e e' h h' ex, codeOk ng nt c = true → eng c e h = some (ex, e', h') → Comes' P ng nt c ex e e' h h') {body : Code} (hb : codeOk ng nt body = true) {it tup okT : Tmp} {c2 : Code} (hml : mapLoopOf body = some (it, tup, okT, c2))
    {n : Nat} {e e' : Env} {h h' : Heap} {ex : AExit} (hr : explore eng it tup okT c2 n e h = some (ex, e', h')) : Rounds' P ng nt body n ex e e' h h' := by
  obtain ⟨id, nx, exo, hbody, hnx, hnd, hng, hex, hed, heg⟩ := mapLoopOf_ok hml
  subst hbody
  simp only [codeOk, Bool.and_eq_true, List.all_cons, List.all_nil, Bool.and_true] at hb
  obtain ⟨⟨ok1, ok2⟩, ok3⟩ := hb
  unfold explore at hr
  split at hr <;> try (simp at hr; done)
  rename_i d hit
  split at hr <;> try (simp at hr; done)
  rename_i r since cur last hd
  split at hr <;> try (simp at hr; done)
  rename_i x hx
  obtain ⟨K, R⟩ := x
  split at hr <;> try (simp at hr; done)
  rename_i f hst
  split at hr <;> try (simp at hr; done)
  rename_i cf hcf
  have hne : ex ≠ .normal := by
    intro he
    subst he
    split at hr
    · simp at hr
    · rename_i hnn; exact hnn _ _ hr
  have hrun : eng c2 ((cf.1.put (some tup) (.tuple #[.bool false])).put (some okT) (.bool false)) (cf.2.1.put d .dead) = some (ex, e', h') := by
    split at hr
    · simp at hr
    · exact hr
  obtain ⟨⟨more, hK⟩, hR⟩ := closeC_ok n _ _ _ _ _ hx rfl (fun i row h => by simp at h)
  have hK0 : K[0]? = some (coreEnv e tup okT e, h.put d .dead, last) := by rw [hK]; rfl
  intro hwf
  have hdn : d < h.nx := by
    rcases Nat.lt_or_ge d h.nx with h' | h'
    · exact h'
    · rw [hwf d h'] at hd; cases hd
  obtain ⟨a1, a2, a3⟩ := stage_ok heng (id := id) hnx hnd hng hex hed heg ok1 ok2 ok3 hR hcf hrun hne n [(0, 0)] hst 0 0 (by simp) _ hK0 [] (fun x => by simp [hasB_eq]) (put_wf hwf hdn)
  have a2 : h.nx ≤ h'.nx := a2
  refine ⟨a1, a2, fun N F m w a Q hN hh hg har hQ => a3 N F m w a Q hN ?_ hg (coreEnv_ok har) hQ⟩
  have hmx : ∀ b, b ≠ d → mix (h.put d .dead) N F b = mix h N F b := fun b eb => by
    rw [mix_put _ _ _ _ (by omega)]
    simp only [if_neg eb]
  refine ⟨fun b => ?_, fun b b' k1 k2 h1 h2 e hq => hh.inj b b' k1 k2 h1 h2 e ?_⟩
  rotate_left
  · by_cases eb : b = d
    · subst eb
      rw [mix_lt h F (by omega), hd]
      rfl
    · rw [if_neg eb] at hq
      rw [← hmx b eb]
      exact hq
  by_cases eb : b = d
  · subst eb
    simp only [if_pos]
    have h1 := hh.at hwf (by omega) hd
    cases hm : m b with
    | fresh => rw [hm] at h1; exact h1.elim
    | dead => rw [hm] at h1; exact h1.elim
    | sym k n => rw [hm] at h1; exact h1.elim
    | live l =>
      rw [hm] at h1
      obtain ⟨h2, cbm, sa, p1, p2, p3, p4⟩ := h1
      exact ⟨h2, cbm, sa, p1, p2, p3, fun b hb => by cases hb⟩
  · simp only [if_neg eb]
    show BRel m w (m b) (mix (h.put d .dead) N F b)
    rw [mix_put _ _ _ _ (by omega)]
    simp only [if_neg eb]
    exact hh.blk b
end Go.AM
