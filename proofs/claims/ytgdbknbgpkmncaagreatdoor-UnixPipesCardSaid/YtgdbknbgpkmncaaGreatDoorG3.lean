/- Lemmas of the claim: the machine of the proof and the walks of the program. Conditions: as each says. -/
import Derived.Test.YtgdbknbgpkmncaaGreatDoorG2
import Derived.LoopN
import Derived.ScopeJumps
import Derived.Test.YtgdbknbgpkmncaaGreatDoorG1
section
/- Ranging over maps: the loop. -/
set_option linter.unusedSectionVars false
namespace Go.AM
variable {P : Program} {ng nt : Nat} [Ds nt]

theorem ERel.mem {m : Mp} : ∀ {es : List (Value × Value × Nat)} {ces : List MapEntry}, ERel m es ces → ∀ ce ∈ ces, ∃ x ∈ es, x.1 = ce.key ∧ simpleKey x.1 = true ∧ VRel m x.2.1 ce.val ∧ x.2.2 = ce.born
  | [], [], _, ce, h => by simp at h
  | x :: r, y :: s, ⟨h1, h2⟩, ce, h => by
    rcases List.mem_cons.1 h with rfl | h
    · exact ⟨x, by simp, h1⟩
    · obtain ⟨z, hz, h3⟩ := ERel.mem h2 ce h
      exact ⟨z, by simp [hz], h3⟩
  | [], _ :: _, h, _, _ => h.elim
  | _ :: _, [], h, _, _ => h.elim
theorem ERel.mem' {m : Mp} : ∀ {es : List (Value × Value × Nat)} {ces : List MapEntry}, ERel m es ces → ∀ x ∈ es, ∃ ce ∈ ces, x.2.2 = ce.born
  | [], [], _, x, h => by simp at h
  | y :: r, z :: s, ⟨h1, h2⟩, x, h => by
    rcases List.mem_cons.1 h with rfl | h
    · exact ⟨z, by simp, h1.2.2.2⟩
    · obtain ⟨c, hc, h3⟩ := ERel.mem' h2 x h
      exact ⟨c, by simp [hc], h3⟩
  | [], _ :: _, h, _, _ => h.elim
  | _ :: _, [], h, _, _ => h.elim
theorem simple_rel {m : Mp} {k : Value} (h : simpleKey k = true) : VRel m k k := by
  cases k <;> first | exact .bool _ | exact .int _ _ | exact .string _ | (simp [simpleKey] at h)

theorem wpOps_step {ops : Array Oper} {Q : Exit → Act → World → Prop} {i : Nat} {rest : List Nat} {a : Act} {w : World} {o : Oper} (ho : ops[i]? = some o) (hw : Region.wanted o (yielded ops a.tmps) = true) (h : o.wp P a w (wpOps P ops Q rest) Q) : wpOps P ops Q (i :: rest) a w := by
  simp only [wpOps, ho]
  rw [if_pos hw]
  exact .inl h
theorem op_value {o : Oper} {a : Act} {w w' : World} {v : Value} {K : Act → World → Prop} {Q : Exit → Act → World → Prop} (h : (execOp a.eval o).run P w = .ok (.value v) w') (hK : K (a.put o.dst v) w') : o.wp P a w K Q := by
  unfold Oper.wp
  rw [h]
  exact hK

theorem mapStep_wp {id : Nat} {nx ex : Oper} {it tup okT : Tmp} {c2 : Code} (hnx : nx.op = .next (.tmp it) false) (hnd : nx.dst = some tup) (hng : nx.guard = none) (hex : ex.op = .extract (.tmp tup) 0) (hed : ex.dst = some okT) (heg : ex.guard = none)
    (ok1 : opersOk ng nt nx = true) (ok2 : opersOk ng nt ex = true) {d r since last clk : Nat} {seen : List Nat} {cur : Option Nat} {es : List (Value × Value × Nat)} {e : Env} {h : Heap}
    (hwf : HWf h) (hit : e.at it = .pointer (some ⟨d, 0, none⟩)) (hsl : since ≤ last) (hd : h.get d = some (.iter r since seen cur last)) (hmap : h.get r = some (.map es clk)) (hold : ∀ x ∈ es, x.2.2 < since)
    {N : Nat} {F : Nat → Option Blk} {m : Mp} {w : World} {a : Act} {Q : Exit → Act → World → Prop} (hN0 : h.nx ≤ N) (hh : HRel m (mix h N F) w) (hg : GlobOk ng m) (hr : ARel m e.at a nt)
    (hstep : ∀ x ∈ es, x.2.2 ∉ seen → ∀ m' w' a', HRel m' (mix (stepIt h d r since seen x.2.2 clk) N F) w' → Step m w m' w' → ARel m' ((e.put (some tup) (.tuple #[.bool true, x.1, x.2.1])).put (some okT) (.bool true)).at a' nt → c2.wp P Q a' w')
    (hend : (∀ x ∈ es, x.2.2 ∈ seen) → ∀ m' w' a', HRel m' (mix h N F) w' → Step m w m' w' → ARel m' ((e.put (some tup) (.tuple #[.bool false])).put (some okT) (.bool false)).at a' nt → c2.wp P Q a' w') :
    (Code.seq (.region id #[nx, ex] false) c2).wp P Q a w := by
  have h1 := hh.at hwf hN0 hd
  obtain ⟨l2, hm2, hrw2, ces, q1, q2⟩ := hh.map hwf hN0 hmap
  cases hm : m d with
  | fresh => rw [hm] at h1; exact h1.elim
  | dead => rw [hm] at h1; exact h1.elim
  | sym k n => rw [hm] at h1; exact h1.elim
  | live l =>
  rw [hm] at h1
  obtain ⟨⟨hrw, hsh⟩, cbm, sa, p1, p2, p3, p4⟩ := h1
  have hcb : l2.cb = cbm := by
    rcases p2 with p2 | ⟨lr, p2, p3⟩
    · rw [hm2] at p2; cases p2
    · rw [hm2] at p2; cases p2; exact p3
  subst hcb
  have hv := hr.tm it
  rw [hit] at hv
  have hptr := ptr_live hv hm
  rw [hsh] at hptr
  refine wp_seq (wp_region ?_)
  have hr2 : List.range (#[nx, ex] : Array Oper).size = [0, 1] := rfl
  rw [hr2]
  have hev : a.eval (.tmp it) = .pointer (some ⟨l.cb, 0 + 0, none⟩) := hptr
  have hw0 : Region.wanted nx (yielded #[nx, ex] a.tmps) = true := by simp [Region.wanted, hng]
  refine wpOps_step (o := nx) rfl hw0 ?_
  have hq : ∀ ce ∈ ces.toList, ce.born < since := fun ce hce => by
    obtain ⟨x, hx, _, _, _, e4⟩ := q2.mem ce hce
    rw [← e4]; exact hold x hx
  have rest : ∀ (m' : Mp) (w' : World) (hX : Heap) (tv tv' : Value) (b : Bool) (tl : List Value), Step m w m' w' → hX.nx ≤ N → HWf hX → HRel m' (mix hX N F) w' → VRel m' tv tv' → tv = .tuple (.bool b :: tl).toArray →
      (∀ m2 w2 a2, HRel m2 (mix hX N F) w2 → Step m w m2 w2 → ARel m2 ((e.put (some tup) tv).put (some okT) (.bool b)).at a2 nt → c2.wp P Q a2 w2) →
      wpOps P #[nx, ex] (Exit.then (c2.wp P Q) Q) [1] (a.put nx.dst tv') w' := by
    intro m' w' hX tv tv' b tl hst hXN hXwf hX1 htv htb hk
    have hr' : ARel m' (e.put (some tup) tv).at (a.put nx.dst tv') nt := by
      rw [Env.put_at, hnd]
      exact (hr.mono hst.ext).put htv (fun t ht => by cases ht; exact dst_lt ok1 _ hnd)
    have hw1 : Region.wanted ex (yielded #[nx, ex] (a.put nx.dst tv').tmps) = true := by simp [Region.wanted, heg]
    refine wpOps_step (o := ex) rfl hw1 ?_
    have heff : eff P ex.op (evalF (e.put (some tup) tv).at) hX.get hX.nx = some ⟨.bool b, [], []⟩ := by
      rw [hex, ← Env.eval_eq]
      have : (e.put (some tup) tv).eval (.tmp tup) = tv := by
        rw [Env.eval_eq]
        show (e.put (some tup) tv).at tup = tv
        rw [Env.put_at]; simp [putF]
      simp only [eff, effExtract]
      rw [this, htb]
      rfl
    refine eff_upon (F := F) (N := N) (f := ⟨.bool b, [], []⟩) hX1 hXwf hXN hXN hr' (hg.mono hst.ext) ok2 heff ?_
    intro m2 w2 a2 g1 g2 g3
    have g1 : HRel m2 (mix hX N F) w2 := g1
    refine hk m2 w2 a2 g1 (hst.trans g2) ?_
    rw [Env.put_at]
    rw [hed] at g3
    exact g3
  rcases next_run (P := P) nx.type p1 q1 hq hsl with ⟨hall, hrun⟩ | ⟨ce, hce, hns, dd, hrun⟩
  · refine op_value (w' := w) (v := .tuple #[.bool false]) (by simp only [execOp, hnx, hev, Sem.run_bind, Nat.zero_add, hrun, Result.andThen_ok, Sem.run_pure]) ?_
    have hall' : ∀ x ∈ es, x.2.2 ∈ seen := fun x hx => by
      obtain ⟨ce, hce, e4⟩ := q2.mem' x hx
      rw [e4]
      exact (p3 _).1 (hall ce hce)
    exact rest m w h (.tuple #[.bool false]) (.tuple #[.bool false]) false [] (.refl m w) hN0 hwf hh (.tuple _ _ (.cons _ _ _ _ (.bool _) .nil)) rfl (hend hall')
  · refine op_value (w' := { w with heap := w.heap.setIfInBounds l.cb (.mapIter (some l2.cb) since (sa.push ce.born) clk), drawn := dd }) (v := .tuple #[.bool true, ce.key, ce.val]) (by simp only [execOp, hnx, hev, Sem.run_bind, Nat.zero_add, hrun, Result.andThen_ok, Sem.run_pure]) ?_
    obtain ⟨x, hx, e1, e2, e3, e4⟩ := q2.mem ce hce
    have hns' : x.2.2 ∉ seen := by rw [e4]; exact fun h => hns ((p3 _).2 h)
    have hlt : l.cb < w.heap.size := hh.lt hm
    have hb : BRel m { w with heap := w.heap.setIfInBounds l.cb (.mapIter (some l2.cb) since (sa.push ce.born) clk) } (.live l) (some (.iter r since (seen ++ [x.2.2]) (some x.2.2) clk)) := by
      refine ⟨⟨hrw, hsh⟩, l2.cb, sa.push ce.born, by simp [hlt], .inr ⟨l2, hm2, rfl⟩, fun y => ?_, fun b hb => ?_⟩
      · rw [Array.toList_push, List.mem_append, List.mem_append, p3, e4]
      · cases hb; rw [Array.back?_push, e4]
    obtain ⟨r1, r2⟩ := wr_rel (v := undef) hh (lt_of_get hwf hN0 hd) hm hrw hb
    have hwf2 : HWf (stepIt h d r since seen x.2.2 clk) := (HWf.apply hwf (.inr ⟨d, _, rfl, by rw [hd]; simp⟩)).1
    exact rest m _ (stepIt h d r since seen x.2.2 clk) (.tuple #[.bool true, x.1, x.2.1]) (.tuple #[.bool true, ce.key, ce.val]) true [x.1, x.2.1] (r2.trans (.drew (d := dd))) hN0 hwf2 (r1.drew dd)
      (.tuple _ _ (.cons _ _ _ _ (.bool _) (.cons _ _ _ _ (e1 ▸ simple_rel e2) (.cons _ _ _ _ e3 .nil)))) rfl (hstep x hx hns')
end Go.AM
end
section
/- What may stand for what: equal blocks, values that are equal or unknown. -/
set_option linter.unusedSectionVars false
namespace Go.AM

theorem beqEs_eq : ∀ (a b : List (Value × Value × Nat)), beqEs a b = true → a = b
  | [], [], _ => rfl
  | x :: r, y :: s, h => by
    simp only [beqEs, Bool.and_eq_true] at h
    obtain ⟨⟨⟨h1, h2⟩, h3⟩, h4⟩ := h
    rw [beqEs_eq r s h4]
    obtain ⟨x1, x2, x3⟩ := x
    obtain ⟨y1, y2, y3⟩ := y
    have e1 : x1 = y1 := (beqV_eq 100).1 _ _ h1
    have e2 : x2 = y2 := (beqV_eq 100).1 _ _ h2
    have e3 : x3 = y3 := Nat.eq_of_beq_eq_true h3
    rw [e1, e2, e3]
  | [], _ :: _, h => by simp [beqEs] at h
  | _ :: _, [], h => by simp [beqEs] at h
theorem beqNs_eq : ∀ (a b : List Nat), beqNs a b = true → a = b
  | [], [], _ => rfl
  | x :: r, y :: s, h => by
    simp only [beqNs, Bool.and_eq_true] at h
    rw [Nat.eq_of_beq_eq_true h.1, beqNs_eq r s h.2]
  | [], _ :: _, h => by simp [beqNs] at h
  | _ :: _, [], h => by simp [beqNs] at h
theorem beqBlk_eq {a b : Blk} (h : beqBlk a b = true) : a = b := by
  unfold beqBlk at h
  split at h
  · simp only [Bool.and_eq_true, decide_eq_true_eq] at h
    rw [Nat.eq_of_beq_eq_true h.1.1, h.1.2, beqT_eq _ _ h.2]
  · simp only [Bool.and_eq_true] at h
    rw [Nat.eq_of_beq_eq_true h.1, beqEs_eq _ _ h.2]
  · simp only [Bool.and_eq_true, beq_iff_eq] at h
    rw [bytes_ext h.1, Nat.eq_of_beq_eq_true h.2]
  · simp only [Bool.and_eq_true] at h
    rw [Nat.eq_of_beq_eq_true h.1.1.1, Nat.eq_of_beq_eq_true h.1.1.2, beqNs_eq _ _ h.1.2, Nat.eq_of_beq_eq_true h.2]
  · rw [beqFs_eq _ _ h]
  · rfl
  · simp at h
theorem beqTB_eq : ∀ (t u : Trie Blk), beqTB t u = true → t = u := by
  intro t
  induction t with
  | leaf =>
    intro u h
    cases u with
    | leaf => rfl
    | node o l r => exact absurd h (by simp [beqTB])
  | node o l r il ir =>
    intro u h
    cases u with
    | leaf => exact absurd h (by simp [beqTB])
    | node o' l' r' =>
      have h' : (beqOB o o' && beqTB l l' && beqTB r r') = true := h
      simp only [Bool.and_eq_true] at h'
      obtain ⟨⟨h1, h2⟩, h3⟩ := h'
      rw [il _ h2, ir _ h3]
      congr 1
      cases o <;> cases o' <;> simp [beqOB] at h1
      · rfl
      · rw [beqBlk_eq h1]

end Go.AM
end
section
/- Loops over maps: that all orders are looked at. -/
set_option linter.unusedSectionVars false
namespace Go.AM
variable {P : Program} {ng nt : Nat} [Ds nt] {cl : Caller}

/- ## an iterator that is only looked at -/
def Alike (m m' : Mp) : Prop := ∀ b, m' b = m b ∨ ∃ l rw, m b = .live l ∧ m' b = .live { l with rw := rw }
theorem Alike.live {m m' : Mp} (e : Alike m m') {b : Nat} {l : Loc} (h : m b = .live l) : ∃ rw, m' b = .live { l with rw := rw } := by
  rcases e b with h1 | ⟨l0, rw, h1, h2⟩
  · exact ⟨l.rw, h1.trans h⟩
  · rw [h] at h1; cases h1; exact ⟨rw, h2⟩
theorem Alike.dead {m m' : Mp} (e : Alike m m') {b : Nat} (h : m b = .dead) : m' b = .dead := by
  rcases e b with h1 | ⟨l0, rw, h1, h2⟩
  · exact h1.trans h
  · rw [h] at h1; cases h1
theorem Alike.sym {m m' : Mp} (e : Alike m m') {b : Nat} {k : IntKind} {n : Int} (h : m b = .sym k n) : m' b = .sym k n := by
  rcases e b with h1 | ⟨l0, rw, h1, h2⟩
  · exact h1.trans h
  · rw [h] at h1; cases h1
mutual
theorem VRel.same {m m' : Mp} (e : Alike m m') : ∀ {v v' : Value}, VRel m v v' → VRel m' v v'
  | _, _, .bool b => .bool b
  | _, _, .int k n => .int k n
  | _, _, .string s => .string s
  | _, _, .ptrNil => .ptrNil
  | _, _, .ptr b off l h => let ⟨rw, h1⟩ := e.live h; .ptr b off { l with rw := rw } h1
  | _, _, .ptrDead a a' h => .ptrDead a a' (e.dead h)
  | _, _, .sliceNil n c => .sliceNil n c
  | _, _, .slice b off len cap cap' l h hs => let ⟨rw, h1⟩ := e.live h; .slice b off len cap cap' { l with rw := rw } h1 hs
  | _, _, .sliceEnd b off a' l h ho => let ⟨rw, h1⟩ := e.live h; .sliceEnd b off a' { l with rw := rw } h1 ho
  | _, _, .sliceDead a a' len cap cap' h => .sliceDead a a' len cap cap' (e.dead h)
  | _, _, .mapNil => .mapNil
  | _, _, .map r l h => let ⟨rw, h1⟩ := e.live h; .map r { l with rw := rw } h1
  | _, _, .mapDead r r' h => .mapDead r r' (e.dead h)
  | _, _, .func f a b a' b' ha hb => .func f a b a' b' (VRels.same e ha) (VRels.same e hb)
  | _, _, .nilFunc => .nilFunc
  | _, _, .nilIface => .nilIface
  | _, _, .iface t v v' h => .iface t v v' (VRel.same e h)
  | _, _, .agg c c' h1 h => .agg c c' h1 (VRels.same e h)
  | _, _, .tuple c c' h => .tuple c c' (VRels.same e h)
  | _, _, .any v' h1 => .any v' h1
  | _, _, .sym i k n h => .sym i k n (e.sym h)
  | _, _, .top v' => .top v'
theorem VRels.same {m m' : Mp} (e : Alike m m') : ∀ {l l' : List Value}, VRels m l l' → VRels m' l l'
  | _, _, .nil => .nil
  | _, _, .cons v v' r r' h t => .cons v v' r r' (VRel.same e h) (VRels.same e t)
end
theorem MapAt.same {m m' : Mp} {r cbm : Nat} (e : Alike m m') (h : MapAt m r cbm) : MapAt m' r cbm := by
  rcases h with h | ⟨lr, h1, h2⟩
  · exact .inl (e.dead h)
  · obtain ⟨rw, h3⟩ := e.live h1
    exact .inr ⟨_, h3, h2⟩
theorem ERel.same {m m' : Mp} (e : Alike m m') : ∀ {a : List (Value × Value × Nat)} {b : List MapEntry}, ERel m a b → ERel m' a b
  | [], [], _ => trivial
  | _ :: _, _ :: _, ⟨⟨h1, h2, h3, h4⟩, h⟩ => ⟨⟨h1, h2, h3.same e, h4⟩, ERel.same e h⟩
  | [], _ :: _, h => h.elim
  | _ :: _, [], h => h.elim
theorem Alike.sym' {m m' : Mp} (e : Alike m m') {b : Nat} {k : IntKind} {n : Int} (h : m' b = .sym k n) : m b = .sym k n := by
  rcases e b with h1 | ⟨l0, rw, h1, h2⟩
  · rw [← h1]; exact h
  · rw [h2] at h; cases h
theorem IsInt.same {m m' : Mp} (e : Alike m m') {o : Value} {k : IntKind} {b : Int} (h : IsInt m o k b) : IsInt m' o k b := by
  rcases h with h | ⟨j, h, hj⟩
  · exact .inl h
  · exact .inr ⟨j, h, e.sym hj⟩
theorem IsInt.same' {m m' : Mp} (e : Alike m m') {o : Value} {k : IntKind} {b : Int} (h : IsInt m' o k b) : IsInt m o k b := by
  rcases h with h | ⟨j, h, hj⟩
  · exact .inl h
  · exact .inr ⟨j, h, e.sym' hj⟩
theorem Fact.ok.same {m m' : Mp} (e : Alike m m') {k : IntKind} {n : Int} {f : Fact} (h : f.ok m k n) : f.ok m' k n := by
  refine ⟨?_, fun op o res hf => let ⟨k', b, h1⟩ := h.2 op o res hf; ⟨k', b, h1.same e⟩⟩
  obtain ⟨h, _⟩ := h
  cases f with
  | bin op o res => exact fun k' b hb => let ⟨v, h1, h2⟩ := h k' b (hb.same' e); ⟨v, h1, h2.same e⟩
  | nib op o res => exact fun k' b hb => let ⟨v, h1, h2⟩ := h k' b (hb.same' e); ⟨v, h1, h2.same e⟩
  | conv k' res => exact VRel.same e h
  | mm mn k' b res => exact ⟨h.1, VRel.same e h.2⟩
theorem BRel.same {m m' : Mp} {w : World} {s : Stat} {x : Option Blk} (e : Alike m m') (h : BRel m w s x) : BRel m' w s x := by
  cases s with
  | fresh => cases x with
    | none => trivial
    | some x => exact h.elim
  | dead => cases x with
    | none => exact h.elim
    | some x => cases x <;> first | trivial | exact h.elim
  | sym k n => cases x with
    | none => exact h.elim
    | some x => cases x <;> first | trivial | exact h.elim | exact fun f hf => (h f hf).same e
  | live l =>
    cases x with
    | none => exact h.elim
    | some x => cases x with
      | cells xs n k =>
        obtain ⟨h0, c, el, fr, h1, h2, h3, h4, h5⟩ := h
        exact ⟨h0, c, el, fr, h1, h2, h3, h4, fun i hi => let ⟨v, v', a1, a2, a3, a4⟩ := h5 i hi; ⟨v, v', a1, a2, a3, a4.same e⟩⟩
      | map es clk =>
        obtain ⟨h0, ces, h1, h2⟩ := h
        exact ⟨h0, ces, h1, h2.same e⟩
      | str s pos => exact h
      | iter r since seen cur last =>
        obtain ⟨h0, cbm, sa, h1, h2, h3⟩ := h
        exact ⟨h0, cbm, sa, h1, h2.same e, h3⟩
      | look r b last =>
        obtain ⟨h0, cbm, since, sa, h1, h2, h3⟩ := h
        exact ⟨h0, cbm, since, sa, h1, h2.same e, h3⟩
      | tok fs => exact h.elim
      | dead => exact h.elim
theorem ARel.same {m m' : Mp} {E : Tmp → Value} {a : Act} (e : Alike m m') (hr : ARel m E a nt) : ARel m' E a nt := ⟨fun t => (hr.tm t).same e, hr.size, hr.def_⟩

def setLoc (m : Mp) (d : Nat) (l : Loc) : Mp := fun b => if b = d then .live l else m b
theorem setLoc_at {m : Mp} {d : Nat} {l : Loc} : setLoc m d l d = .live l := by simp [setLoc]
theorem setLoc_ne {m : Mp} {d b : Nat} {l : Loc} (h : b ≠ d) : setLoc m d l b = m b := by simp [setLoc, h]
theorem setLoc_same {m : Mp} {d : Nat} {l : Loc} (h : m d = .live l) (rw : Bool) : Alike m (setLoc m d { l with rw := rw }) := fun b => by
  by_cases e : b = d
  · subst e; exact .inr ⟨l, rw, h, setLoc_at⟩
  · exact .inl (setLoc_ne e)
theorem HRel.setLoc {m : Mp} {G : Nat → Option Blk} {w : World} {d : Nat} {l : Loc} {rw : Bool} {x : Blk} (hh : HRel m G w) (h : m d = .live l) (hro : roB (G d) = false) (hx : BRel (setLoc m d { l with rw := rw }) w (.live { l with rw := rw }) (some x)) :
    HRel (AM.setLoc m d { l with rw := rw }) (fun b => if b = d then some x else G b) w := by
  refine ⟨fun b => ?_, fun b b' l1 l2 h1 h2 e hq => ?_⟩
  · by_cases e : b = d
    · subst e; simp only [if_pos]; rw [setLoc_at]; exact hx
    · simp only [if_neg e]; rw [setLoc_ne e]; exact BRel.same (setLoc_same h rw) (hh.blk b)
  · have key : ∀ b l1, AM.setLoc m d { l with rw := rw } b = .live l1 → ∃ l0, m b = .live l0 ∧ l0.cb = l1.cb := by
      intro b l1 h1
      by_cases e : b = d
      · subst e; rw [setLoc_at] at h1; cases h1; exact ⟨l, h, rfl⟩
      · rw [setLoc_ne e] at h1; exact ⟨l1, h1, rfl⟩
    obtain ⟨k1, a1, a2⟩ := key b l1 h1
    obtain ⟨k2, b1, b2⟩ := key b' l2 h2
    refine hh.inj b b' k1 k2 a1 b1 (by rw [a2, b2, e]) ?_
    by_cases e1 : b = d
    · rw [e1]; exact hro
    · simpa only [if_neg e1] using hq

theorem mix_put (h : Heap) (N : Nat) (F : Nat → Option Blk) {d : Nat} (x : Blk) (hd : d < N) : mix (h.put d x) N F = fun b => if b = d then some x else mix h N F b := mix_set h N F x h.nx hd
theorem put_wf {h : Heap} {d : Nat} {x : Blk} (hwf : HWf h) (hd : d < h.nx) : HWf (h.put d x) := fun b hb => by
  have hb : h.nx ≤ b := hb
  show (h.t.set d x).get b = none
  rw [Trie.get_set, if_neg (by omega)]
  exact hwf b hb

theorem round_look {c2 : Code} {e0 e1 : Env} {h h1 : Heap} {d r since b clk : Nat} {seen : List Nat} (hd : d < h.nx) (hwf : HWf h) (hc : Comes' P ng nt c2 .normal e0 e1 (h.put d (.look r b clk)) h1)
    {N : Nat} {F : Nat → Option Blk} {m : Mp} {w : World} {a : Act} {Q : Exit → Act → World → Prop} (hN : h1.nx ≤ N)
    (hh : HRel m (fun b' => if b' = d then some (.iter r since (seen ++ [b]) (some b) clk) else mix h N F b') w) (hg : GlobOk ng m) (hr : ARel m e0.at a nt)
    (hQ : ∀ m' w' a', HRel m' (fun b' => if b' = d then some (.iter r since (seen ++ [b]) none clk) else mix h1 N F b') w' → Step m w m' w' → ARel m' e1.at a' nt → Q .normal a' w') : c2.wp P Q a w := by
  obtain ⟨a1, a2, a3⟩ := hc (put_wf hwf hd)
  have a2 : h.nx ≤ h1.nx := a2
  have hb := hh.blk d
  simp only [if_pos] at hb
  cases hm : m d with
  | fresh => rw [hm] at hb; exact hb.elim
  | dead => rw [hm] at hb; exact hb.elim
  | sym k n => rw [hm] at hb; exact hb.elim
  | live l =>
  rw [hm] at hb
  obtain ⟨⟨hrw, hsh⟩, cbm, sa, p1, p2, p3, p4⟩ := hb
  have hs1 := setLoc_same hm false
  have hh1 : HRel (setLoc m d { l with rw := false }) (mix (h.put d (.look r b clk)) N F) w := by
    rw [mix_put _ _ _ _ (by omega)]
    have := hh.setLoc (rw := false) (x := .look r b clk) hm (by simp [roB]) ⟨⟨rfl, hsh⟩, cbm, since, sa, p1, p2.same hs1, p4 b rfl⟩
    have e : (fun b' => if b' = d then some (Blk.look r b clk) else if b' = d then some (Blk.iter r since (seen ++ [b]) (some b) clk) else mix h N F b') = fun b' => if b' = d then some (Blk.look r b clk) else mix h N F b' := by
      funext b'
      by_cases e : b' = d
      · rw [if_pos e, if_pos e]
      · rw [if_neg e, if_neg e, if_neg e]
    rw [e] at this
    exact this
  have hg1 : GlobOk ng (setLoc m d { l with rw := false }) := fun g hgl => by
    rcases hg g hgl with ⟨lg, q1, q2, q3, q4⟩ | q1
    · have hne : g ≠ d := fun e => by subst e; rw [hm] at q1; cases q1; rw [hrw] at q4; cases q4
      exact .inl ⟨lg, by rw [setLoc_ne hne]; exact q1, q2, q3, q4⟩
    · have hne : g ≠ d := fun e => by subst e; rw [hm] at q1; cases q1
      exact .inr (by rw [setLoc_ne hne]; exact q1)
  refine a3 N F _ w a Q hN hh1 hg1 (hr.same hs1) ?_
  intro m' w' a' x q1 q2 q3 q4
  have : x = .normal := q4
  subst this
  have hm' : m' d = .live { l with rw := false } := q2.ext.ro setLoc_at rfl
  have hs2 : Alike m' (setLoc m' d l) := setLoc_same hm' l.rw
  have hkeep : w'.heap[l.cb]? = w.heap[l.cb]? := by
    refine q2.keep l.cb (hh.lt hm) ?_
    intro b' l' hb' hr' e
    by_cases e2 : b' = d
    · subst e2; rw [setLoc_at] at hb'; cases hb'; cases hr'
    · rw [setLoc_ne e2] at hb'
      exact e2 (hh.inj d b' l l' hm hb' e.symm (by simp [roB])).symm
  refine hQ (setLoc m' d l) w' a' ?_ ?_ (q3.same hs2)
  · have := q1.setLoc (rw := l.rw) (x := .iter r since (seen ++ [b]) none clk) hm' (roB_obj (hm' ▸ q1.blk d) fun c el fr hc => by have := hkeep.symm.trans hc; rw [p1] at this; cases this) ⟨⟨hrw, hsh⟩, cbm, sa, hkeep.trans p1, ((p2.same hs1).mono q2.ext).same hs2, p3, fun b hb => by cases hb⟩
    exact this
  · refine ⟨fun b' => ?_, q2.size, q2.os, q2.out, fun cb hc hn => q2.keep cb hc fun b' l' hb' hr' => ?_, fun b' l' hb' hr' => ?_, fun b' l' hb' hr' => ?_⟩
    · by_cases e : b' = d
      · subst e; exact .inr (.inl (by rw [setLoc_at, hm]))
      · have := q2.ext b'
        rw [setLoc_ne e] at this ⊢
        exact this
    · by_cases e : b' = d
      · subst e; rw [setLoc_at] at hb'; cases hb'; cases hr'
      · rw [setLoc_ne e] at hb'; exact hn b' l' hb' hr'
    · by_cases e : b' = d
      · subst e; rw [setLoc_at] at hb'; cases hb'; exact .inr ⟨b', l, hm, hrw, rfl⟩
      · rw [setLoc_ne e] at hb'
        rcases q2.new b' l' hb' hr' with g1 | ⟨b0, l0, g1, g2, g3⟩
        · exact .inl g1
        · by_cases e0 : b0 = d
          · subst e0; rw [setLoc_at] at g1; cases g1; cases g2
          · rw [setLoc_ne e0] at g1; exact .inr ⟨b0, l0, g1, g2, g3⟩
    · by_cases e : b' = d
      · subst e; rw [setLoc_at] at hb'; cases hb'; rw [hrw] at hr'; cases hr'
      · rw [setLoc_ne e] at hb'
        have := q2.old b' l' hb' hr'
        rw [setLoc_ne e] at this
        exact this

/- ## what is kept of the temporaries -/
theorem maskT_get : ∀ (t u : Trie Value) (k : Nat) (v : Value), (maskT t u).get k = some v → u.get k = some v := by
  intro t
  induction t with
  | leaf => intro u k v h; exact absurd ((show (Trie.leaf : Trie Value).get k = some v from h).symm.trans (Trie.get_leaf k)) (by simp)
  | node o l r il ir =>
    intro u k v h
    cases u with
    | leaf => exact absurd ((show (Trie.leaf : Trie Value).get k = some v from h).symm.trans (Trie.get_leaf k)) (by simp)
    | node o' l' r' =>
      have h' : (Trie.node (Option.rec none (fun _ => o') o) (maskT l l') (maskT r r')).get k = some v := h
      cases k with
      | zero =>
        rw [Trie.get_zero] at h' ⊢
        cases o with
        | none => cases h'
        | some x => exact h'
      | succ k =>
        rw [Trie.get_succ] at h' ⊢
        by_cases e : k % 2 = 0
        · rw [if_pos e] at h' ⊢; exact il _ _ _ h'
        · rw [if_neg e] at h' ⊢; exact ir _ _ _ h'
theorem coreEnv_ok {m : Mp} {e0 e1 : Env} {tup okT : Tmp} {a : Act} (hr : ARel m e1.at a nt) : ARel m (coreEnv e0 tup okT e1).at a nt :=
  ⟨fun t => by
    have h1 := hr.tm t
    rw [Env.at_eq] at h1 ⊢
    cases hv : (coreEnv e0 tup okT e1).get t with
    | none => exact .top _
    | some v =>
      have hv' : (((maskT e0 e1).set tup topV).set okT topV).get t = some v := hv
      rw [Trie.get_set] at hv'
      split at hv'
      · cases hv'; exact .top _
      · rw [Trie.get_set] at hv'
        split at hv'
        · cases hv'; exact .top _
        · rw [maskT_get _ _ _ _ hv'] at h1
          exact h1, hr.size, hr.def_⟩

/- ## the table -/
theorem beqH_ok {a b : Heap} (h : beqH a b = true) : a = b := by
  simp only [beqH, Bool.and_eq_true] at h
  obtain ⟨t, n⟩ := a
  obtain ⟨t', n'⟩ := b
  have h1 : n = n' := Nat.eq_of_beq_eq_true h.1
  have h2 : t = t' := beqTB_eq _ _ h.2
  rw [h1, h2]
theorem beqC_ok {a b : Core} (h : beqC a b = true) : a = b := by
  simp only [beqC, Bool.and_eq_true] at h
  obtain ⟨e, t, n⟩ := a
  obtain ⟨e', t', n'⟩ := b
  have h1 : n = n' := Nat.eq_of_beq_eq_true h.1.1
  have h2 : e = e' := beqT_eq _ _ h.1.2
  have h3 : t = t' := beqH_ok h.2
  rw [h1, h2, h3]
theorem findC_ok {c : Core} : ∀ {l : List Core} {i k : Nat}, findC c l i = some k → ∃ j, k = i + j ∧ l[j]? = some c
  | [], _, _, h => by simp [findC] at h
  | x :: l, i, k, h => by
    rw [findC] at h
    cases hb : beqC c x with
    | true =>
      rw [hb] at h
      simp only [Option.some.injEq] at h
      exact ⟨0, by omega, by rw [beqC_ok hb]; rfl⟩
    | false =>
      rw [hb] at h
      obtain ⟨j, h1, h2⟩ := findC_ok h
      exact ⟨j + 1, by omega, by simpa using h2⟩
def RowRel (f : Value × Value × Nat → Option Core) (known : List Core) : List (Value × Value × Nat) → List (Nat × Option Nat) → Prop
  | [], [] => True
  | x :: l, y :: r => (y.1 = x.2.2 ∧ ∀ q, y.2 = some q → ∃ c, f x = some c ∧ known[q]? = some c) ∧ RowRel f known l r
  | _, _ => False
theorem RowRel.mono {f : Value × Value × Nat → Option Core} {known : List Core} (more : List Core) : ∀ {l : List (Value × Value × Nat)} {r : List (Nat × Option Nat)}, RowRel f known l r → RowRel f (known ++ more) l r
  | [], [], _ => trivial
  | _ :: _, _ :: _, ⟨⟨h1, h2⟩, h3⟩ => ⟨⟨h1, fun q hq => let ⟨c, a1, a2⟩ := h2 q hq; ⟨c, a1, by rw [List.getElem?_append_left (List.getElem?_eq_some_iff.1 a2).1]; exact a2⟩⟩, h3.mono more⟩
  | [], _ :: _, h => h.elim
  | _ :: _, [], h => h.elim
theorem RowRel.mem {f : Value × Value × Nat → Option Core} {known : List Core} : ∀ {l : List (Value × Value × Nat)} {r : List (Nat × Option Nat)}, RowRel f known l r → ∀ x ∈ l, ∃ y ∈ r, y.1 = x.2.2 ∧ ∀ q, y.2 = some q → ∃ c, f x = some c ∧ known[q]? = some c
  | [], _, _, x, hx => by simp at hx
  | z :: l, y :: r, ⟨h1, h3⟩, x, hx => by
    rcases List.mem_cons.1 hx with rfl | hx
    · exact ⟨y, by simp, h1⟩
    · obtain ⟨y', a1, a2⟩ := h3.mem x hx
      exact ⟨y', by simp [a1], a2⟩
  | _ :: _, [], h, _, _ => h.elim
theorem RowRel.mem' {f : Value × Value × Nat → Option Core} {known : List Core} : ∀ {l : List (Value × Value × Nat)} {r : List (Nat × Option Nat)}, RowRel f known l r → ∀ y ∈ r, ∃ x ∈ l, y.1 = x.2.2
  | _, [], _, y, hy => by simp at hy
  | z :: l, y :: r, ⟨h1, h3⟩, x, hx => by
    rcases List.mem_cons.1 hx with rfl | hx
    · exact ⟨z, by simp, h1.1⟩
    · obtain ⟨y', a1, a2⟩ := h3.mem' x hx
      exact ⟨y', by simp [a1], a2⟩
  | [], _ :: _, h, _, _ => h.elim
theorem rowC_ok {f : Value × Value × Nat → Option Core} : ∀ (l : List (Value × Value × Nat)) (known : List Core), (∃ more, (rowC f l known).2 = known ++ more) ∧ RowRel f (rowC f l known).2 l (rowC f l known).1
  | [], known => ⟨⟨[], by simp [rowC]⟩, trivial⟩
  | x :: l, known => by
    rw [rowC]
    split
    · rename_i hf
      obtain ⟨h1, h2⟩ := rowC_ok (f := f) l known
      exact ⟨h1, ⟨rfl, fun q hq => by cases hq⟩, h2⟩
    · rename_i c hf
      split
      · rename_i i hi
        obtain ⟨⟨more, h1⟩, h2⟩ := rowC_ok (f := f) l known
        refine ⟨⟨more, h1⟩, ⟨rfl, fun q hq => ?_⟩, h2⟩
        cases hq
        obtain ⟨j, g1, g2⟩ := findC_ok hi
        refine ⟨c, hf, ?_⟩
        show (rowC f l known).2[i]? = some c
        rw [h1, show i = j by omega, List.getElem?_append_left (List.getElem?_eq_some_iff.1 g2).1]
        exact g2
      · obtain ⟨⟨more, h1⟩, h2⟩ := rowC_ok (f := f) l (known ++ [c])
        refine ⟨⟨[c] ++ more, by show (rowC f l (known ++ [c])).2 = _; rw [h1]; simp⟩, ⟨rfl, fun q hq => ?_⟩, h2⟩
        cases hq
        refine ⟨c, hf, ?_⟩
        show (rowC f l (known ++ [c])).2[known.length]? = some c
        rw [h1]
        simp
section
variable {eng : Code → Env → Heap → Res} {it tup okT : Tmp} {c2 : Code} {e0 : Env} {d r since : Nat}
def GoodAt (eng : Code → Env → Heap → Res) (it tup okT : Tmp) (c2 : Code) (e0 : Env) (d r since : Nat) (known : List Core) (c : Core) (row : List (Nat × Option Nat)) : Prop :=
  ∃ es clk, coreEs it d r since c = some (es, clk) ∧ RowRel (stepCore eng tup okT c2 e0 d r clk c) known es row
theorem closeC_ok : ∀ (n : Nat) (known : List Core) (j : Nat) (rows : List (List (Nat × Option Nat))) (K : List Core) (R : List (List (Nat × Option Nat))), closeC eng it tup okT c2 e0 d r since n known j rows = some (K, R) → rows.length = j →
    (∀ (i : Nat) (row : List (Nat × Option Nat)), rows[i]? = some row → ∃ c, known[i]? = some c ∧ GoodAt eng it tup okT c2 e0 d r since known c row) →
    (∃ more, K = known ++ more) ∧ ∀ (i : Nat) (row : List (Nat × Option Nat)), R[i]? = some row → ∃ c, K[i]? = some c ∧ GoodAt eng it tup okT c2 e0 d r since K c row := by
  intro n
  induction n with
  | zero => intro known j rows K R h; simp [closeC] at h
  | succ n ih =>
    intro known j rows K R h hl hg
    have h : (match known[j]? with
      | none => some (known, rows)
      | some c => match coreEs it d r since c with
        | none => none
        | some x => closeC eng it tup okT c2 e0 d r since n (rowC (stepCore eng tup okT c2 e0 d r x.2 c) x.1 known).2 (Nat.succ j) (rows ++ [(rowC (stepCore eng tup okT c2 e0 d r x.2 c) x.1 known).1])) = some (K, R) := h
    split at h
    · simp only [Option.some.injEq, Prod.mk.injEq] at h
      obtain ⟨rfl, rfl⟩ := h
      exact ⟨⟨[], by simp⟩, hg⟩
    · rename_i c hc
      split at h <;> try (simp at h; done)
      rename_i x hx
      obtain ⟨es, clk⟩ := x
      obtain ⟨⟨more, h1⟩, h2⟩ := rowC_ok (f := stepCore eng tup okT c2 e0 d r clk c) es known
      obtain ⟨⟨more2, g1⟩, g2⟩ := ih _ _ _ _ _ h (by simp [hl]) (by
        intro i row hr
        rw [h1]
        by_cases hi : i < rows.length
        · rw [List.getElem?_append_left hi] at hr
          obtain ⟨c', a1, es', clk', a2, a3⟩ := hg i row hr
          exact ⟨c', by rw [List.getElem?_append_left (List.getElem?_eq_some_iff.1 a1).1]; exact a1, es', clk', a2, a3.mono more⟩
        · rw [List.getElem?_append_right (by omega)] at hr
          have hi' : i = j := by
            have := (List.getElem?_eq_some_iff.1 hr).1
            simp at this
            omega
          subst hi'
          rw [show i - rows.length = 0 by omega] at hr
          simp only [List.getElem?_cons_zero, Option.some.injEq] at hr
          subst hr
          refine ⟨c, by rw [List.getElem?_append_left (List.getElem?_eq_some_iff.1 hc).1]; exact hc, es, clk, hx, ?_⟩
          rw [← h1]
          exact h2)
      refine ⟨⟨more ++ more2, ?_⟩, g2⟩
      rw [g1, h1]
      simp
end

/- ## sets -/
theorem hasB_eq (S b : Nat) : hasB S b = Nat.testBit S b := by
  unfold hasB Nat.testBit
  show Nat.beq (S >>> b &&& 1) 1 = (1 &&& S >>> b != 0)
  rw [Nat.and_comm 1, Nat.and_one_is_mod]
  rcases Nat.mod_two_eq_zero_or_one (S >>> b) with h | h <;> rw [h] <;> rfl
theorem hasB_add (S b x : Nat) : hasB (addB S b) x = true ↔ x = b ∨ hasB S x = true := by
  rw [hasB_eq, hasB_eq]
  show Nat.testBit (S ||| 2 ^ b) x = true ↔ _
  rw [Nat.testBit_or, Bool.or_eq_true, Nat.testBit_two_pow, decide_eq_true_eq]
  constructor
  · rintro (h | h)
    · exact .inr h
    · exact .inl h.symm
  · rintro (h | h)
    · exact .inr h.symm
    · exact .inl h
theorem goS_ok {S : Nat} : ∀ {row : List (Nat × Option Nat)} {a : List (Nat × Nat)}, goS S row = some a → (∀ y ∈ row, hasB S y.1 = false → ∃ q, y.2 = some q ∧ (q, addB S y.1) ∈ a) ∧ (a = [] → ∀ y ∈ row, hasB S y.1 = true) ∧ (a ≠ [] → ∃ y ∈ row, hasB S y.1 = false)
  | [], a, h => by
    simp only [goS, Option.some.injEq] at h
    subst h
    simp
  | x :: l, a, h => by
    rw [goS] at h
    cases hb : hasB S x.1 with
    | true =>
      rw [hb] at h
      obtain ⟨h1, h2, h3⟩ := goS_ok (show goS S l = some a from h)
      refine ⟨fun y hy hn => ?_, fun ha y hy => ?_, fun ha => ?_⟩
      · rcases List.mem_cons.1 hy with rfl | hy
        · rw [hb] at hn; cases hn
        · exact h1 y hy hn
      · rcases List.mem_cons.1 hy with rfl | hy
        · exact hb
        · exact h2 ha y hy
      · obtain ⟨y, a1, a2⟩ := h3 ha
        exact ⟨y, by simp [a1], a2⟩
    | false =>
      rw [hb] at h
      have h : (match x.2 with
        | some i => match goS S l with
          | some r => some ((i, addB S x.1) :: r)
          | none => none
        | none => none) = some a := h
      split at h <;> try (simp at h; done)
      rename_i i hi
      split at h <;> try (simp at h; done)
      rename_i r hr
      simp only [Option.some.injEq] at h
      subst h
      obtain ⟨h1, _, _⟩ := goS_ok hr
      refine ⟨fun y hy hn => ?_, fun ha => by simp at ha, fun _ => ⟨x, by simp, hb⟩⟩
      rcases List.mem_cons.1 hy with rfl | hy
      · exact ⟨i, hi, by simp⟩
      · obtain ⟨q, a1, a2⟩ := h1 y hy hn
        exact ⟨q, a1, by simp [a2]⟩
theorem goAll_ok {rows : List (List (Nat × Option Nat))} : ∀ {l : List (Nat × Nat)} {ll : List (List (Nat × Nat))}, goAll rows l = some ll → ∀ s ∈ l, ∃ row a, rows[s.1]? = some row ∧ goS s.2 row = some a ∧ a ∈ ll
  | [], _, _, s, hs => by simp at hs
  | x :: l, ll, h, s, hs => by
    rw [goAll] at h
    split at h <;> try (simp at h; done)
    rename_i row hrow
    split at h <;> try (simp at h; done)
    rename_i a ha
    split at h <;> try (simp at h; done)
    rename_i b hb
    simp only [Option.some.injEq] at h
    subst h
    rcases List.mem_cons.1 hs with rfl | hs
    · exact ⟨row, a, hrow, ha, by simp⟩
    · obtain ⟨row', a', g1, g2, g3⟩ := goAll_ok hb s hs
      exact ⟨row', a', g1, g2, by simp [g3]⟩
theorem memS_ok {s : Nat × Nat} {l : List (Nat × Nat)} (h : memS s l = true) : s ∈ l := by
  unfold memS at h
  rw [List.any_eq_true] at h
  obtain ⟨t, ht, h⟩ := h
  simp only [Bool.and_eq_true] at h
  have h1 : s.2 = t.2 := Nat.eq_of_beq_eq_true h.1
  have h2 : s.1 = t.1 := Nat.eq_of_beq_eq_true h.2
  have : s = t := by
    obtain ⟨s1, s2⟩ := s
    obtain ⟨t1, t2⟩ := t
    simp only at h1 h2
    rw [h1, h2]
  exact this ▸ ht
theorem dedup_ok : ∀ (l acc : List (Nat × Nat)) (s : Nat × Nat), s ∈ l ∨ s ∈ acc → s ∈ dedup l acc
  | [], acc, s, h => by rcases h with h | h; (simp at h); exact h
  | x :: l, acc, s, h => by
    rw [dedup]
    cases hm : memS x acc with
    | true =>
      show s ∈ dedup l acc
      refine dedup_ok l acc s ?_
      rcases h with h | h
      · rcases List.mem_cons.1 h with rfl | h
        · exact .inr (memS_ok hm)
        · exact .inl h
      · exact .inr h
    | false =>
      show s ∈ dedup l (x :: acc)
      refine dedup_ok l (x :: acc) s ?_
      rcases h with h | h
      · rcases List.mem_cons.1 h with rfl | h
        · exact .inr (by simp)
        · exact .inl h
      · exact .inr (by simp [h])

/- ## the loop -/
theorem mapLoopOf_ok {body : Code} {it tup okT : Tmp} {c2 : Code} (h : mapLoopOf body = some (it, tup, okT, c2)) :
    ∃ id nx ex, body = .seq (.region id #[nx, ex] false) c2 ∧ nx.op = .next (.tmp it) false ∧ nx.dst = some tup ∧ nx.guard = none ∧ ex.op = .extract (.tmp tup) 0 ∧ ex.dst = some okT ∧ ex.guard = none := by
  unfold mapLoopOf at h
  split at h <;> try (simp at h; done)
  rename_i id ops c2'
  split at h <;> try (simp at h; done)
  rename_i nx ex hops
  split at h <;> try (simp at h; done)
  rename_i it' hnx
  split at h <;> try (simp at h; done)
  rename_i tup1 tup2 okT' h1 h2 h3 h4 h5
  split at h <;> try (simp at h; done)
  rename_i he
  simp only [Option.some.injEq, Prod.mk.injEq] at h
  obtain ⟨rfl, rfl, rfl, rfl⟩ := h
  have he := Nat.eq_of_beq_eq_true he
  subst he
  refine ⟨id, nx, ex, ?_, hnx, h1, h2, h3, h4, h5⟩
  congr 2
  exact Array.ext' (by rw [hops])

def Rounds' (P : Program) (ng nt : Nat) [Ds nt] (c : Code) (n : Nat) (ex : AExit) (e e' : Env) (h h' : Heap) : Prop :=
  HWf h → HWf h' ∧ h.nx ≤ h'.nx ∧ ∀ (N : Nat) (F : Nat → Option Blk) (m : Mp) (w : World) (a : Act) (Q : Exit → Act → World → Prop), h'.nx ≤ N → HRel m (mix h N F) w → GlobOk ng m → ARel m e.at a nt →
    (∀ m' w' a' x, HRel m' (mix h' N F) w' → Step m w m' w' → ARel m' e'.at a' nt → XRel m' ex x → Q x a' w') → Code.rounds P c Q n a w
theorem XRel.not_normal {m : Mp} {x : Exit} {ex : AExit} (hx : XRel m ex x) (hn : ex ≠ .normal) : x ≠ .normal := by
  cases ex with
  | normal => exact absurd rfl hn
  | ret => have : x = .ret := hx; subst this; simp
  | exit id => have : x = .exit id := hx; subst this; simp
  | goto l => have : x = .goto l := hx; subst this; simp
  | pan v => obtain ⟨v', hx, _⟩ := (hx : ∃ v', x = .panic [{ v := v', recovered := false }] ∧ VRel m v v'); subst hx; simp
theorem then_of_not {K : Act → World → Prop} {Q : Exit → Act → World → Prop} {x : Exit} {a : Act} {w : World} (hx : x ≠ .normal) (h : Q x a w) : Exit.then K Q x a w := by
  cases x with
  | normal => exact absurd rfl hx
  | _ => exact h

theorem coreEs_ok {it : Tmp} {d r since : Nat} {c : Core} {es : List (Value × Value × Nat)} {clk : Nat} (h : coreEs it d r since c = some (es, clk)) :
    c.1.at it = .pointer (some ⟨d, 0, none⟩) ∧ c.2.1.get r = some (.map es clk) ∧ since ≤ c.2.2 ∧ d < c.2.1.nx ∧ r ≠ d ∧ ∀ x ∈ es, x.2.2 < since := by
  unfold coreEs at h
  split at h <;> try (simp at h; done)
  rename_i d' hit
  split at h <;> try (simp at h; done)
  rename_i es' clk' hm
  cases hc : (Nat.beq d' d && Nat.ble since c.2.2 && Nat.blt d c.2.1.nx && !(Nat.beq r d) && es'.all (fun x => Nat.blt x.2.2 since)) with
  | false => rw [hc] at h; simp at h
  | true =>
    rw [hc] at h
    simp only [cond_true, Option.some.injEq, Prod.mk.injEq] at h
    obtain ⟨rfl, rfl⟩ := h
    simp only [Bool.and_eq_true, List.all_eq_true] at hc
    obtain ⟨⟨⟨⟨h1, h2⟩, h3⟩, h4⟩, h5⟩ := hc
    have h1 := Nat.eq_of_beq_eq_true h1
    subst h1
    refine ⟨hit, hm, Nat.le_of_ble_eq_true h2, by simpa [Nat.blt_eq] using h3, ?_, fun x hx => by simpa [Nat.blt_eq] using h5 x hx⟩
    intro e
    subst e
    rw [Nat.beq_refl] at h4
    cases h4

section
variable {eng : Code → Env → Heap → Res} {it tup okT : Tmp} {c2 : Code} {e0 : Env} {d r since : Nat}
theorem stage_ok (heng : ∀ c e e' h h' ex, codeOk ng nt c = true → eng c e h = some (ex, e', h') → Comes' P ng nt c ex e e' h h') {id : Nat} {nx exo : Oper} (hnx : nx.op = .next (.tmp it) false) (hnd : nx.dst = some tup) (hng : nx.guard = none)
    (hex : exo.op = .extract (.tmp tup) 0) (hed : exo.dst = some okT) (heg : exo.guard = none) (ok1 : opersOk ng nt nx = true) (ok2 : opersOk ng nt exo = true) (ok3 : codeOk ng nt c2 = true)
    {K : List Core} {R : List (List (Nat × Option Nat))} (hR : ∀ (i : Nat) (row : List (Nat × Option Nat)), R[i]? = some row → ∃ c, K[i]? = some c ∧ GoodAt eng it tup okT c2 e0 d r since K c row)
    {f : Nat} {cf : Core} (hf : K[f]? = some cf) {ex : AExit} {e' : Env} {h' : Heap} (hrun : eng c2 ((cf.1.put (some tup) (.tuple #[.bool false])).put (some okT) (.bool false)) (cf.2.1.put d .dead) = some (ex, e', h')) (hne : ex ≠ .normal) :
    ∀ (n : Nat) (L : List (Nat × Nat)), stage R n L = some f → ∀ i S, (i, S) ∈ L → ∀ c, K[i]? = some c → ∀ seen : List Nat, (∀ x, x ∈ seen ↔ hasB S x = true) → HWf c.2.1 →
      HWf h' ∧ c.2.1.nx ≤ h'.nx ∧ ∀ (N : Nat) (F : Nat → Option Blk) (m : Mp) (w : World) (a : Act) (Q : Exit → Act → World → Prop), h'.nx ≤ N → HRel m (fun b => if b = d then some (.iter r since seen none c.2.2) else mix c.2.1 N F b) w → GlobOk ng m → ARel m c.1.at a nt →
        (∀ m' w' a' x, HRel m' (mix h' N F) w' → Step m w m' w' → ARel m' e'.at a' nt → XRel m' ex x → Q x a' w') → Code.rounds P (.seq (.region id #[nx, exo] false) c2) Q n a w := by
  intro n
  induction n with
  | zero => intro L h; simp [stage] at h
  | succ n ih =>
    intro L h i S hiS c hc seen hseen hwf
    replace h : (match (generalizing := false) goAll R L with
      | none => none
      | some ll => (Bool.rec (Bool.rec (stage R n (dedup ll.flatten [])) none (ll.any List.isEmpty)) (match (generalizing := false) L with
          | [s] => some s.1
          | _ => none) (ll.all List.isEmpty) : Option Nat)) = some f := h
    split at h <;> try (simp at h; done)
    rename_i ll hll
    obtain ⟨row, al, hrow, hal, hmem⟩ := goAll_ok hll (i, S) hiS
    obtain ⟨c', hc', es, clk, hes, hrel⟩ := hR i row hrow
    have : c' = c := by rw [hc] at hc'; cases hc'; rfl
    subst this
    obtain ⟨hit, hmap, hsl, hd, hrd, hold⟩ := coreEs_ok hes
    obtain ⟨g1, g2, g3⟩ := goS_ok hal
    have hwfS : HWf (c'.2.1.put d (.iter r since seen none c'.2.2)) := put_wf hwf hd
    have hgd : (c'.2.1.put d (.iter r since seen none c'.2.2)).get d = some (.iter r since seen none c'.2.2) := Trie.get_set_same _ _ _
    have hgr : (c'.2.1.put d (.iter r since seen none c'.2.2)).get r = some (.map es clk) := by
      show (c'.2.1.t.set d _).get r = _
      rw [Trie.get_set_ne _ _ hrd]; exact hmap
    have nots : ∀ b, b ∉ seen → hasB S b = false := fun b hb => by rw [← Bool.not_eq_true]; exact fun hh => hb ((hseen b).2 hh)
    cases hall : ll.all List.isEmpty with
    | true =>
      rw [hall] at h
      simp only at h
      have hae : al = [] := by simpa using List.all_eq_true.1 hall al hmem
      split at h <;> try (simp at h; done)
      rename_i s
      simp only [Option.some.injEq] at h
      have hs : (i, S) = s := by simpa using hiS
      have hi : i = f := by rw [← h, ← hs]
      subst hi
      have : cf = c' := by rw [hc] at hf; cases hf; rfl
      subst this
      have h1c := heng _ _ _ _ _ _ ok3 hrun
      obtain ⟨a1, a2, a3⟩ := h1c (put_wf hwf hd)
      refine ⟨a1, a2, fun N F m w a Q hN hh hg har hQ => ?_⟩
      have a2 : cf.2.1.nx ≤ h'.nx := a2
      rw [rounds_succ]
      refine mapStep_wp hnx hnd hng hex hed heg ok1 ok2 hwfS hit hsl hgd hgr hold (show cf.2.1.nx ≤ N by omega) (by rw [mix_put _ _ _ _ (by omega)]; exact hh) hg har ?_ ?_
      · intro x hx hns
        obtain ⟨y, y1, y2, _⟩ := hrel.mem x hx
        have := g2 hae y y1
        rw [y2, nots _ hns] at this
        cases this
      · intro _ m' w' a' q1 q2 q3
        rw [mix_put _ _ _ _ (by omega)] at q1
        have hb := q1.blk d
        simp only [if_pos] at hb
        cases hm : m' d with
        | fresh => rw [hm] at hb; exact hb.elim
        | dead => rw [hm] at hb; exact hb.elim
        | sym k n => rw [hm] at hb; exact hb.elim
        | live l =>
          rw [hm] at hb
          obtain ⟨k1, k2⟩ := q1.kill hm hb.1.1
          have e : (fun b' => if b' = d then some Blk.dead else if b' = d then some (Blk.iter r since seen none cf.2.2) else mix cf.2.1 N F b') = mix (cf.2.1.put d .dead) N F := by
            rw [mix_put _ _ _ _ (by omega)]
            funext b'
            by_cases e : b' = d
            · rw [if_pos e, if_pos e]
            · rw [if_neg e, if_neg e, if_neg e]
          rw [e] at k1
          refine a3 N F _ w' a' _ hN k1 (hg.mono (q2.trans k2).ext) (q3.mono k2.ext) ?_
          intro m2 w2 a2' x p1 p2 p3 p4
          exact then_of_not (p4.not_normal hne) (hQ m2 w2 a2' x p1 ((q2.trans k2).trans p2) p3 p4)
    | false =>
      rw [hall] at h
      simp only at h
      cases hany : ll.any List.isEmpty with
      | true => rw [hany] at h; simp at h
      | false =>
        rw [hany] at h
        simp only at h
        have hane : al ≠ [] := fun he => by
          rw [← Bool.not_eq_true, List.any_eq_true] at hany
          exact hany ⟨al, hmem, by simp [he]⟩
        obtain ⟨y0, hy0, hb0⟩ := g3 hane
        obtain ⟨x0, hx0, hxy0⟩ := hrel.mem' y0 hy0
        have step : ∀ x ∈ es, hasB S x.2.2 = false → ∃ (e1 : Env) (h1 : Heap), eng c2 ((c'.1.put (some tup) (.tuple #[.bool true, x.1, x.2.1])).put (some okT) (.bool true)) (c'.2.1.put d (.look r x.2.2 clk)) = some (.normal, e1, h1) ∧
            (HWf h1 → d < h1.nx → HWf h' ∧ h1.nx ≤ h'.nx ∧ ∀ (N : Nat) (F : Nat → Option Blk) (m : Mp) (w : World) (a : Act) (Q : Exit → Act → World → Prop), h'.nx ≤ N → HRel m (fun b => if b = d then some (.iter r since (seen ++ [x.2.2]) none clk) else mix h1 N F b) w → GlobOk ng m → ARel m e1.at a nt →
              (∀ m' w' a' x, HRel m' (mix h' N F) w' → Step m w m' w' → ARel m' e'.at a' nt → XRel m' ex x → Q x a' w') → Code.rounds P (.seq (.region id #[nx, exo] false) c2) Q n a w) := by
          intro x hx hns
          obtain ⟨y, y1, y2, y3⟩ := hrel.mem x hx
          obtain ⟨q, q1, q2⟩ := g1 y y1 (by rw [y2]; exact hns)
          obtain ⟨cn, cn1, cn2⟩ := y3 q q1
          unfold stepCore at cn1
          split at cn1 <;> try (simp at cn1; done)
          rename_i e1 h1 he
          simp only [Option.some.injEq] at cn1
          subst cn1
          refine ⟨e1, h1, he, fun hwf1 hd1 => ?_⟩
          obtain ⟨b1, b2, b3⟩ := ih _ h q (addB S y.1) (dedup_ok _ _ _ (.inl (List.mem_flatten.2 ⟨al, hmem, q2⟩))) _ cn2 (seen ++ [x.2.2]) (fun z => by
            rw [hasB_add, y2, List.mem_append, hseen]
            constructor
            · rintro (h | h)
              · exact .inr h
              · exact .inl (by simpa using h)
            · rintro (h | h)
              · exact .inr (by simpa using h)
              · exact .inl h) (put_wf hwf1 hd1)
          refine ⟨b1, b2, fun N F m w a Q hN hh hg har hQ => b3 N F m w a Q hN ?_ hg (coreEnv_ok har) hQ⟩
          have b2 : h1.nx ≤ h'.nx := b2
          show HRel m (fun b => if b = d then some (.iter r since (seen ++ [x.2.2]) none clk) else mix (h1.put d .dead) N F b) w
          rw [mix_put _ _ _ _ (by omega)]
          have e : (fun b => if b = d then some (Blk.iter r since (seen ++ [x.2.2]) none clk) else if b = d then some Blk.dead else mix h1 N F b) = fun b => if b = d then some (.iter r since (seen ++ [x.2.2]) none clk) else mix h1 N F b := by
            funext b'
            by_cases e : b' = d
            · rw [if_pos e, if_pos e]
            · rw [if_neg e, if_neg e, if_neg e]
          rw [e]
          exact hh
        have gen : HWf h' ∧ c'.2.1.nx ≤ h'.nx := by
          obtain ⟨e1, h1, s1, s2⟩ := step x0 hx0 (by rw [← hxy0]; exact hb0)
          obtain ⟨a1, a2, _⟩ := heng _ _ _ _ _ _ ok3 s1 (put_wf hwf hd)
          have a2 : c'.2.1.nx ≤ h1.nx := a2
          obtain ⟨b1, b2, _⟩ := s2 a1 (by omega)
          exact ⟨b1, by omega⟩
        refine ⟨gen.1, gen.2, fun N F m w a Q hN hh hg har hQ => ?_⟩
        have hnn := gen.2
        rw [rounds_succ]
        refine mapStep_wp hnx hnd hng hex hed heg ok1 ok2 hwfS hit hsl hgd hgr hold (show c'.2.1.nx ≤ N by omega) (by rw [mix_put _ _ _ _ (by omega)]; exact hh) hg har ?_ ?_
        · intro x hx hns m' w' a' p1 p2 p3
          obtain ⟨e1, h1, s1, s2⟩ := step x hx (nots _ hns)
          have hc1 := heng _ _ _ _ _ _ ok3 s1
          obtain ⟨a1, a2, _⟩ := hc1 (put_wf hwf hd)
          have a2 : c'.2.1.nx ≤ h1.nx := a2
          obtain ⟨b1, b2, b3⟩ := s2 a1 (by omega)
          refine round_look (seen := seen) (since := since) hd hwf hc1 (by omega) (N := N) (F := F) (m := m') ?_ (hg.mono p2.ext) p3 ?_
          · have e : mix (stepIt (c'.2.1.put d (.iter r since seen none c'.2.2)) d r since seen x.2.2 clk) N F = fun b' => if b' = d then some (Blk.iter r since (seen ++ [x.2.2]) (some x.2.2) clk) else mix c'.2.1 N F b' := by
              show mix ((c'.2.1.put d (.iter r since seen none c'.2.2)).put d (.iter r since (seen ++ [x.2.2]) (some x.2.2) clk)) N F = _
              rw [mix_put _ _ _ _ (by omega), mix_put _ _ _ _ (by omega)]
              funext b'
              by_cases e : b' = d
              · rw [if_pos e, if_pos e]
              · simp only [if_neg e]
            rw [e] at p1
            exact p1
          · intro m2 w2 a2' q1 q2 q3
            refine b3 N F m2 w2 a2' Q hN q1 (hg.mono (p2.trans q2).ext) q3 ?_
            intro m3 w3 a3' x' q5 q6 q7 q8
            exact hQ m3 w3 a3' x' q5 ((p2.trans q2).trans q6) q7 q8
        · intro hend
          have := (hseen _).1 (hend x0 hx0)
          rw [← hxy0, hb0] at this
          cases this
end

theorem explore_ok {eng : Code → Env → Heap → Res} (heng : ∀ c e e' h h' ex, codeOk ng nt c = true → eng c e h = some (ex, e', h') → Comes' P ng nt c ex e e' h h') {body : Code} (hb : codeOk ng nt body = true) {it tup okT : Tmp} {c2 : Code} (hml : mapLoopOf body = some (it, tup, okT, c2))
    {n : Nat} {e e' : Env} {h h' : Heap} {ex : AExit} (hr : explore eng it tup okT c2 n e h = some (ex, e', h')) : Rounds' P ng nt body n ex e e' h h' := by
  obtain ⟨id, nx, exo, hbody, hnx, hnd, hng, hex, hed, heg⟩ := mapLoopOf_ok hml
  subst hbody
  simp only [codeOk, Bool.and_eq_true, List.all_cons, List.all_nil, Bool.and_true] at hb
  obtain ⟨⟨ok1, ok2⟩, ok3⟩ := hb
  unfold explore at hr
  split at hr <;> try (simp at hr; done)
  rename_i d hit
  split at hr <;> try (simp at hr; done)
  rename_i r since cur last hd
  split at hr <;> try (simp at hr; done)
  rename_i x hx
  obtain ⟨K, R⟩ := x
  split at hr <;> try (simp at hr; done)
  rename_i f hst
  split at hr <;> try (simp at hr; done)
  rename_i cf hcf
  have hne : ex ≠ .normal := by
    intro he
    subst he
    split at hr
    · simp at hr
    · rename_i hnn; exact hnn _ _ hr
  have hrun : eng c2 ((cf.1.put (some tup) (.tuple #[.bool false])).put (some okT) (.bool false)) (cf.2.1.put d .dead) = some (ex, e', h') := by
    split at hr
    · simp at hr
    · exact hr
  obtain ⟨⟨more, hK⟩, hR⟩ := closeC_ok n _ _ _ _ _ hx rfl (fun i row h => by simp at h)
  have hK0 : K[0]? = some (coreEnv e tup okT e, h.put d .dead, last) := by rw [hK]; rfl
  intro hwf
  have hdn : d < h.nx := by
    rcases Nat.lt_or_ge d h.nx with h' | h'
    · exact h'
    · rw [hwf d h'] at hd; cases hd
  obtain ⟨a1, a2, a3⟩ := stage_ok heng (id := id) hnx hnd hng hex hed heg ok1 ok2 ok3 hR hcf hrun hne n [(0, 0)] hst 0 0 (by simp) _ hK0 [] (fun x => by simp [hasB_eq]) (put_wf hwf hdn)
  have a2 : h.nx ≤ h'.nx := a2
  refine ⟨a1, a2, fun N F m w a Q hN hh hg har hQ => a3 N F m w a Q hN ?_ hg (coreEnv_ok har) hQ⟩
  have hmx : ∀ b, b ≠ d → mix (h.put d .dead) N F b = mix h N F b := fun b eb => by
    rw [mix_put _ _ _ _ (by omega)]
    simp only [if_neg eb]
  refine ⟨fun b => ?_, fun b b' k1 k2 h1 h2 e hq => hh.inj b b' k1 k2 h1 h2 e ?_⟩
  rotate_left
  · by_cases eb : b = d
    · subst eb
      rw [mix_lt h F (by omega), hd]
      rfl
    · rw [if_neg eb] at hq
      rw [← hmx b eb]
      exact hq
  by_cases eb : b = d
  · subst eb
    simp only [if_pos]
    have h1 := hh.at hwf (by omega) hd
    cases hm : m b with
    | fresh => rw [hm] at h1; exact h1.elim
    | dead => rw [hm] at h1; exact h1.elim
    | sym k n => rw [hm] at h1; exact h1.elim
    | live l =>
      rw [hm] at h1
      obtain ⟨h2, cbm, sa, p1, p2, p3, p4⟩ := h1
      exact ⟨h2, cbm, sa, p1, p2, p3, fun b hb => by cases hb⟩
  · simp only [if_neg eb]
    show BRel m w (m b) (mix (h.put d .dead) N F b)
    rw [mix_put _ _ _ _ (by omega)]
    simp only [if_neg eb]
    exact hh.blk b
end Go.AM
end
section
/- Code, functions, calls. -/
set_option linter.unusedSectionVars false
namespace Go.AM

variable {P : Program} {ng nt : Nat} [Ds nt] {cl : Caller}

def Exit.into (P : Program) (c : Code) (Q : Exit → Act → World → Prop) : Nat → Exit → Act → World → Prop
  | 0, .goto _, _, _ => False
  | n + 1, .goto l, a, w => ∃ rest, findLabel c l = some rest ∧ rest.wp P (Exit.into P c Q n) a w
  | _, e, a, w => Q e a w
theorem wp_scope_into {c : Code} {Q : Exit → Act → World → Prop} {a : Act} {w : World} (n : Nat) (first : c.wp P (Exit.into P c Q n) a w) : (Code.scope c).wp P Q a w := by
  intro b k cs
  have key : ∀ n (rest : Code) a w, rest.wp P (Exit.into P c Q n) a w → ∃ e a' w', Q e a' w' ∧ Arrives P (lone (b.at a (.code rest :: .inScope c :: k)) cs w) b k cs e a' w' := by
    intro n
    induction n with
    | zero =>
      intro rest a w h
      obtain ⟨e, a₁, w₁, hq, harr⟩ := h b (.inScope c :: k) cs
      cases e with
      | normal => exact ⟨.normal, a₁, w₁, hq, Steps.trans harr (.one step_inScope)⟩
      | exit id => exact ⟨.exit id, a₁, w₁, hq, fun k' hk => harr k' (by simp [exitTo, hk])⟩
      | goto l' => exact hq.elim
      | ret => exact ⟨_, a₁, w₁, hq, harr⟩
      | panic ch => exact ⟨_, a₁, w₁, hq, harr⟩
      | outgrown => exact ⟨_, a₁, w₁, hq, harr⟩
    | succ n ih =>
      intro rest a w h
      obtain ⟨e, a₁, w₁, hq, harr⟩ := h b (.inScope c :: k) cs
      cases e with
      | normal => exact ⟨.normal, a₁, w₁, hq, Steps.trans harr (.one step_inScope)⟩
      | exit id => exact ⟨.exit id, a₁, w₁, hq, fun k' hk => harr k' (by simp [exitTo, hk])⟩
      | goto l' =>
        obtain ⟨rest', hf, hw⟩ := hq
        obtain ⟨e₂, a₂, w₂, hq₂, harr₂⟩ := ih rest' a₁ w₁ hw
        have hg : gotoIn l' (.inScope c :: k) = some (.code rest' :: .inScope c :: k) := by simp [gotoIn, hf]
        exact ⟨e₂, a₂, w₂, hq₂, .of_steps (harr _ hg) harr₂⟩
      | ret => exact ⟨_, a₁, w₁, hq, harr⟩
      | panic ch => exact ⟨_, a₁, w₁, hq, harr⟩
      | outgrown => exact ⟨_, a₁, w₁, hq, harr⟩
  obtain ⟨e, a₁, w₁, hq, harr⟩ := key n c a w first
  refine ⟨e, a₁, w₁, hq, ?_⟩
  cases e with
  | normal => exact .head step_scope harr
  | exit id => exact fun k' hk => .head step_scope (harr k' hk)
  | goto l => exact fun k' hk => .head step_scope (harr k' hk)
  | ret => exact .of_steps (.one step_scope) harr
  | panic ch => exact .of_steps (.one step_scope) harr
  | outgrown => exact .of_steps (.one step_scope) harr

variable {e e1 e' : Env} {h h1 h' : Heap} {ex : AExit}

theorem codeOk_label {body rest : Code} {l : Nat} (hf : findLabel body l = some rest) (hok : codeOk ng nt body = true) : codeOk ng nt rest = true := by
  induction body generalizing rest with
  | seq a b iha ihb =>
    simp only [codeOk, Bool.and_eq_true] at hok
    unfold findLabel at hf
    split at hf
    · rename_i r hr
      simp only [Option.some.injEq] at hf
      subst hf
      simp only [codeOk, Bool.and_eq_true]
      exact ⟨iha hr hok.1, hok.2⟩
    · exact ihb hf hok.2
  | label l' =>
    unfold findLabel at hf
    split at hf <;> simp at hf
    subst hf; rfl
  | _ => simp [findLabel] at hf

theorem Comes'.nop {c : Code} (hx : ∀ (Q : Exit → Act → World → Prop) (a : Act) (w : World), (∀ x, (∀ m, XRel m ex x) → Q x a w) → c.wp P Q a w) : Comes' P ng nt c ex e e h h := by
  intro hwf
  refine ⟨hwf, Nat.le_refl _, fun N F m w a Q _ hh _ hr hQ => hx Q a w ?_⟩
  intro x hxx
  exact hQ m w a x hh (.refl m w) hr (hxx m)
theorem Comes'.seq {c1 c2 : Code} (h1c : Comes' P ng nt c1 .normal e e1 h h1) (h2c : Comes' P ng nt c2 ex e1 e' h1 h') : Comes' P ng nt (.seq c1 c2) ex e e' h h' := by
  intro hwf
  obtain ⟨a1, a2, a3⟩ := h1c hwf
  obtain ⟨b1, b2, b3⟩ := h2c a1
  refine ⟨b1, Nat.le_trans a2 b2, fun N F m w a Q hN hh hg hr hQ => wp_seq ?_⟩
  refine a3 N F m w a _ (Nat.le_trans b2 hN) hh hg hr ?_
  intro m' w' a' x q1 q2 q3 q4
  have : x = .normal := q4
  subst this
  refine b3 N F m' w' a' Q hN q1 (hg.mono q2.ext) q3 ?_
  intro m'' w'' a'' x p1 p2 p3 p4
  exact hQ m'' w'' a'' x p1 (q2.trans p2) p3 p4
theorem Comes'.stop {c1 c2 : Code} (h1c : Comes' P ng nt c1 ex e e' h h') (hn : ex ≠ .normal) : Comes' P ng nt (.seq c1 c2) ex e e' h h' := by
  intro hwf
  obtain ⟨a1, a2, a3⟩ := h1c hwf
  refine ⟨a1, a2, fun N F m w a Q hN hh hg hr hQ => wp_seq ?_⟩
  refine a3 N F m w a _ hN hh hg hr ?_
  intro m' w' a' x q1 q2 q3 q4
  exact then_of_not (q4.not_normal hn) (hQ m' w' a' x q1 q2 q3 q4)
theorem Comes'.block {c : Code} {id : Nat} {ex' : AExit} (hc : Comes' P ng nt c ex e e' h h') (hx : ex' = match ex with | .exit i => if i = id then .normal else .exit i | x => x) : Comes' P ng nt (.block id c) ex' e e' h h' := by
  intro hwf
  obtain ⟨a1, a2, a3⟩ := hc hwf
  refine ⟨a1, a2, fun N F m w a Q hN hh hg hr hQ => wp_block ?_⟩
  refine a3 N F m w a _ hN hh hg hr ?_
  intro m' w' a' x q1 q2 q3 q4
  have hQ' := hQ m' w' a'
  cases ex with
  | exit i =>
    have : x = .exit i := q4
    subst this
    simp only at hx
    unfold Exit.inBlock
    by_cases e : i = id
    · rw [if_pos e] at hx
      subst hx
      simp only [if_pos e]
      exact hQ' .normal q1 q2 q3 rfl
    · rw [if_neg e] at hx
      subst hx
      simp only [if_neg e]
      exact hQ' (.exit i) q1 q2 q3 rfl
  | normal => simp only at hx; subst hx; have : x = .normal := q4; subst this; exact hQ' .normal q1 q2 q3 rfl
  | ret => simp only at hx; subst hx; have : x = .ret := q4; subst this; exact hQ' .ret q1 q2 q3 rfl
  | goto l => simp only at hx; subst hx; have : x = .goto l := q4; subst this; exact hQ' (.goto l) q1 q2 q3 rfl
  | pan v =>
    simp only at hx; subst hx
    obtain ⟨v', e, hv⟩ := (q4 : ∃ v', x = .panic [{ v := v', recovered := false }] ∧ VRel m' v v')
    subst e
    exact hQ' _ q1 q2 q3 ⟨v', rfl, hv⟩

theorem Rounds'.loop {c : Code} {n : Nat} (hr : Rounds' P ng nt c n ex e e' h h') : Comes' P ng nt (.loop c) ex e e' h h' := fun hwf =>
  let ⟨a1, a2, a3⟩ := hr hwf
  ⟨a1, a2, fun N F m w a Q hN hh hg hr hQ => wp_loop_rounds n (a3 N F m w a Q hN hh hg hr hQ)⟩
theorem Rounds'.more {c : Code} {n : Nat} (h1c : Comes' P ng nt c .normal e e1 h h1) (h2c : Rounds' P ng nt c n ex e1 e' h1 h') : Rounds' P ng nt c (n + 1) ex e e' h h' := by
  intro hwf
  obtain ⟨a1, a2, a3⟩ := h1c hwf
  obtain ⟨b1, b2, b3⟩ := h2c a1
  refine ⟨b1, Nat.le_trans a2 b2, fun N F m w a Q hN hh hg hr hQ => ?_⟩
  rw [rounds_succ]
  refine a3 N F m w a _ (Nat.le_trans b2 hN) hh hg hr ?_
  intro m' w' a' x q1 q2 q3 q4
  have : x = .normal := q4
  subst this
  refine b3 N F m' w' a' Q hN q1 (hg.mono q2.ext) q3 ?_
  intro m'' w'' a'' x p1 p2 p3 p4
  exact hQ m'' w'' a'' x p1 (q2.trans p2) p3 p4
theorem Rounds'.stop {c : Code} {n : Nat} (h1c : Comes' P ng nt c ex e e' h h') (hn : ex ≠ .normal) : Rounds' P ng nt c (n + 1) ex e e' h h' := by
  intro hwf
  obtain ⟨a1, a2, a3⟩ := h1c hwf
  refine ⟨a1, a2, fun N F m w a Q hN hh hg hr hQ => ?_⟩
  rw [rounds_succ]
  refine a3 N F m w a _ hN hh hg hr ?_
  intro m' w' a' x q1 q2 q3 q4
  exact then_of_not (q4.not_normal hn) (hQ m' w' a' x q1 q2 q3 q4)

def Scoped' (P : Program) (ng nt : Nat) [Ds nt] (body c : Code) (n : Nat) (ex : AExit) (e e' : Env) (h h' : Heap) : Prop :=
  HWf h → HWf h' ∧ h.nx ≤ h'.nx ∧ ∀ (N : Nat) (F : Nat → Option Blk) (m : Mp) (w : World) (a : Act) (Q : Exit → Act → World → Prop), h'.nx ≤ N → HRel m (mix h N F) w → GlobOk ng m → ARel m e.at a nt →
    (∀ m' w' a' x, HRel m' (mix h' N F) w' → Step m w m' w' → ARel m' e'.at a' nt → XRel m' ex x → Q x a' w') → c.wp P (Exit.into P body Q n) a w
theorem into_of_not {body : Code} {Q : Exit → Act → World → Prop} {x : Exit} {a : Act} {w : World} (n : Nat) (hx : ∀ l, x ≠ .goto l) (h : Q x a w) : Exit.into P body Q n x a w := by
  cases x with
  | goto l => exact absurd rfl (hx l)
  | _ => cases n <;> exact h
theorem scope_ok {eng : Code → Env → Heap → Res} {body : Code} (hb : codeOk ng nt body = true) (heng : ∀ c e h ex e' h', codeOk ng nt c = true → eng c e h = some (ex, e', h') → Comes' P ng nt c ex e e' h h') :
    ∀ (n : Nat) (c : Code) (e e' : Env) (h h' : Heap) (ex : AExit), codeOk ng nt c = true → scopeRun eng body n c e h = some (ex, e', h') → Scoped' P ng nt body c n ex e e' h h' := by
  intro n
  induction n with
  | zero => intro c e e' h h' ex _ hr; simp [scopeRun] at hr
  | succ n ih =>
    intro c e e' h h' ex hok hr
    rw [scopeRun] at hr
    split at hr
    · rename_i l e1 h1 hl
      split at hr <;> try (simp at hr; done)
      rename_i rest hf
      have h1c := heng _ _ _ _ _ _ hok hl
      have h2c := ih _ _ _ _ _ _ (codeOk_label hf hb) hr
      intro hwf
      obtain ⟨a1, a2, a3⟩ := h1c hwf
      obtain ⟨b1, b2, b3⟩ := h2c a1
      refine ⟨b1, Nat.le_trans a2 b2, fun N F m w a Q hN hh hg hr hQ => ?_⟩
      refine a3 N F m w a _ (Nat.le_trans b2 hN) hh hg hr ?_
      intro m' w' a' x q1 q2 q3 q4
      have : x = .goto l := q4
      subst this
      refine ⟨rest, hf, ?_⟩
      refine b3 N F m' w' a' Q hN q1 (hg.mono q2.ext) q3 ?_
      intro m'' w'' a'' x p1 p2 p3 p4
      exact hQ m'' w'' a'' x p1 (q2.trans p2) p3 p4
    · rename_i hng
      have h1c := heng _ _ _ _ _ _ hok hr
      intro hwf
      obtain ⟨a1, a2, a3⟩ := h1c hwf
      refine ⟨a1, a2, fun N F m w a Q hN hh hg hr' hQ => ?_⟩
      refine a3 N F m w a _ hN hh hg hr' ?_
      intro m' w' a' x q1 q2 q3 q4
      refine into_of_not _ ?_ (hQ m' w' a' x q1 q2 q3 q4)
      intro l hl
      subst hl
      cases ex with
      | goto l' => exact hng l' e' h' hr
      | normal => cases q4
      | ret => cases q4
      | exit i => cases q4
      | pan v => obtain ⟨_, hq, _⟩ := (q4 : ∃ v', Exit.goto l = .panic [{ v := v', recovered := false }] ∧ VRel m' v v'); cases hq

theorem onNormal_eq (r : Res) (k : Env → Heap → Res) : onNormal r k = (match r with
    | some (.normal, e', h') => k e' h'
    | r => r) := by
  cases r with
  | none => rfl
  | some x => obtain ⟨ex, e, h⟩ := x; cases ex <;> rfl
theorem onExit_eq (r : Res) (id : Nat) : onExit r id = (match r with
    | some (.exit i, e', h') => (Bool.rec (some (.exit i, e', h')) (some (.normal, e', h')) (Nat.beq i id) : Res)
    | r => r) := by
  cases r with
  | none => rfl
  | some x => obtain ⟨ex, e, h⟩ := x; cases ex <;> rfl
theorem engine_ok (hm : P.follows .mixedOrders = true) (hcl : CallOk P ng cl) : ∀ (n : Nat), (∀ (c : Code) (e e' : Env) (h h' : Heap) (ex : AExit), codeOk ng nt c = true → engine P cl n c e h = some (ex, e', h') → Comes' P ng nt c ex e e' h h') ∧
    (∀ (c : Code) (e e' : Env) (h h' : Heap) (ex : AExit), codeOk ng nt c = true → mapLoopOf c = none → engine P cl n (.loop c) e h = some (ex, e', h') → Rounds' P ng nt c n ex e e' h h') := by
  intro n
  induction n with
  | zero => exact ⟨fun c e e' h h' ex _ hr => by simp [engine] at hr, fun c e e' h h' ex _ _ hr => by simp [engine] at hr⟩
  | succ n ih =>
    obtain ⟨ihc, ihl⟩ := ih
    have hloop : ∀ (c : Code) (e e' : Env) (h h' : Heap) (ex : AExit), codeOk ng nt c = true → mapLoopOf c = none → engine P cl (n + 1) (.loop c) e h = some (ex, e', h') → Rounds' P ng nt c (n + 1) ex e e' h h' := by
      intro c e e' h h' ex hok hml hr
      have hr' : (match mapLoopOf c with
        | some (it, tup, okT, c2) => explore (engine P cl n) it tup okT c2 n e h
        | none => onNormal (engine P cl n c e h) (engine P cl n (.loop c))) = some (ex, e', h') := hr
      rw [hml] at hr'
      simp only at hr'
      rw [onNormal_eq] at hr'
      split at hr'
      · rename_i e1 h1 h1c
        exact .more (ihc _ _ _ _ _ _ hok h1c) (ihl _ _ _ _ _ _ hok hml hr')
      · rename_i hn
        exact .stop (ihc _ _ _ _ _ _ hok hr') (fun he => hn _ _ (he ▸ hr'))
    refine ⟨fun c e e' h h' ex hok hr => ?_, hloop⟩
    cases c with
    | skip =>
      have hr' : some (AExit.normal, e, h) = some (ex, e', h') := hr
      simp only [Option.some.injEq, Prod.mk.injEq] at hr'
      obtain ⟨rfl, rfl, rfl⟩ := hr'
      exact .nop (fun Q a w hQ => wp_skip (hQ _ fun _ => rfl))
    | label l =>
      have hr' : some (AExit.normal, e, h) = some (ex, e', h') := hr
      simp only [Option.some.injEq, Prod.mk.injEq] at hr'
      obtain ⟨rfl, rfl, rfl⟩ := hr'
      exact .nop (fun Q a w hQ => wp_label (hQ _ fun _ => rfl))
    | ret =>
      have hr' : some (AExit.ret, e, h) = some (ex, e', h') := hr
      simp only [Option.some.injEq, Prod.mk.injEq] at hr'
      obtain ⟨rfl, rfl, rfl⟩ := hr'
      exact .nop (fun Q a w hQ => wp_ret (hQ _ fun _ => rfl))
    | exit id =>
      have hr' : some (AExit.exit id, e, h) = some (ex, e', h') := hr
      simp only [Option.some.injEq, Prod.mk.injEq] at hr'
      obtain ⟨rfl, rfl, rfl⟩ := hr'
      exact .nop (fun Q a w hQ => wp_exit (hQ _ fun _ => rfl))
    | goto l =>
      have hr' : some (AExit.goto l, e, h) = some (ex, e', h') := hr
      simp only [Option.some.injEq, Prod.mk.injEq] at hr'
      obtain ⟨rfl, rfl, rfl⟩ := hr'
      exact .nop (fun Q a w hQ => wp_goto (hQ _ fun _ => rfl))
    | seq c1 c2 =>
      simp only [codeOk, Bool.and_eq_true] at hok
      have hr' : (match engine P cl n c1 e h with
        | some (.normal, e', h') => engine P cl n c2 e' h'
        | r => r) = some (ex, e', h') := by rw [← onNormal_eq]; exact hr
      split at hr'
      · rename_i e1 h1 h1c
        exact .seq (ihc _ _ _ _ _ _ hok.1 h1c) (ihc _ _ _ _ _ _ hok.2 hr')
      · rename_i hn
        exact .stop (ihc _ _ _ _ _ _ hok.1 hr') (fun he => hn _ _ (he ▸ hr'))
    | cond x c1 c2 =>
      simp only [codeOk, Bool.and_eq_true] at hok
      have hr' : (match e.eval x with
        | .bool t => engine P cl n (Bool.rec c2 c1 t) e h
        | _ => none) = some (ex, e', h') := hr
      split at hr' <;> try (simp at hr'; done)
      rename_i t ht
      have hok' : codeOk ng nt (Bool.rec c2 c1 t) = true := by
        cases t
        · exact hok.2
        · exact hok.1.2
      intro hwf
      obtain ⟨a1, a2, a3⟩ := ihc _ _ _ _ _ _ hok' hr' hwf
      refine ⟨a1, a2, fun N F m w a Q hN hh hg hr hQ => ?_⟩
      have hev := hr.eval hg hok.1.1
      rw [← Env.eval_eq, ht] at hev
      generalize hv : a.eval x = v at hev
      cases hev
      refine wp_cond hv ?_
      have := a3 N F m w a Q hN hh hg hr hQ
      cases t <;> exact this
    | block id c =>
      have hok' : codeOk ng nt c = true := hok
      have hr' : (match engine P cl n c e h with
        | some (.exit i, e', h') => (Bool.rec (some (.exit i, e', h')) (some (.normal, e', h')) (Nat.beq i id) : Res)
        | r => r) = some (ex, e', h') := by rw [← onExit_eq]; exact hr
      split at hr'
      · rename_i i e1 h1 h1c
        by_cases hi : i = id
        · subst hi
          rw [show Nat.beq i i = true from Nat.beq_refl i] at hr'
          simp only [Option.some.injEq, Prod.mk.injEq] at hr'
          obtain ⟨rfl, rfl, rfl⟩ := hr'
          exact (ihc _ _ _ _ _ _ hok' h1c).block (by simp)
        · rw [show Nat.beq i id = false from by rw [← Bool.not_eq_true, Nat.beq_eq]; exact hi] at hr'
          simp only [Option.some.injEq, Prod.mk.injEq] at hr'
          obtain ⟨rfl, rfl, rfl⟩ := hr'
          exact (ihc _ _ _ _ _ _ hok' h1c).block (by simp [hi])
      · rename_i hn
        refine (ihc _ _ _ _ _ _ hok' hr').block ?_
        cases ex with
        | exit i => exact absurd hr' (hn _ _ _)
        | _ => rfl
    | loop c =>
      have hok' : codeOk ng nt c = true := hok
      cases hml : mapLoopOf c with
      | none => exact (hloop c _ _ _ _ _ hok' hml hr).loop
      | some x =>
        obtain ⟨it, tup, okT, c2⟩ := x
        have hr' : (match mapLoopOf c with
          | some (it, tup, okT, c2) => explore (engine P cl n) it tup okT c2 n e h
          | none => onNormal (engine P cl n c e h) (engine P cl n (.loop c))) = some (ex, e', h') := hr
        rw [hml] at hr'
        exact (explore_ok (fun c e e' h h' ex => ihc c e e' h h' ex) hok' hml hr').loop
    | scope c =>
      have hok' : codeOk ng nt c = true := hok
      have hr' : scopeRun (engine P cl n) c n c e h = some (ex, e', h') := hr
      have := scope_ok hok' (fun c e h ex e' h' => ihc c e e' h h' ex) n c e e' h h' ex hok' hr'
      intro hwf
      obtain ⟨a1, a2, a3⟩ := this hwf
      exact ⟨a1, a2, fun N F m w a Q hN hh hg hr hQ => wp_scope_into n (a3 N F m w a Q hN hh hg hr hQ)⟩
    | region id ops draw =>
      have hok' : ops.toList.all (opersOk ng nt) = true := hok
      cases draw with
      | false => exact region_wp hcl hok' hr
      | true => exact draw_wp hm hcl hok' hr
    | rangeFunc _ _ _ _ => simp [codeOk] at hok
    | refuse _ =>
      have hr' : (none : Res) = some (ex, e', h') := hr
      cases hr'
end Go.AM
end
section
/- Functions, calls. -/
set_option linter.unusedSectionVars false
namespace Go.AM
variable {P : Program} {ng nt : Nat} [Ds nt] {m : Mp} {h h' : Heap} {N : Nat} {F : Nat → Option Blk} {w : World}

theorem load_pure {t : TypeId} {a a' : Value} {f : Eff} (hr : HRel m (mix h N F) w) (hwf : HWf h) (hN : h.nx ≤ N) (ha : VRel m a a') (he : effLoad P t a h.get = some f) :
    ∃ v', (do loadVar t (← asAddr a') : Sem Value).run P w = .ok v' w ∧ VRel m f.val v' := by
  unfold effLoad at he
  split at he <;> try (simp at he; done)
  rename_i b off
  split at he <;> try (simp at he; done)
  rename_i xs n k hb
  obtain ⟨l, hm, c, el, fr, hc⟩ := hr.cells hwf hN hb
  have hp := ptr_live ha hm
  subst hp
  split at he <;> try (simp at he; done)
  rename_i d hd
  have hfit := hc.fit
  have hcsz := hc.csz
  cases hg : aggB (some d) with
  | true =>
    rw [hg] at he
    simp only [cond_true] at he
    split at he <;> try (simp at he; done)
    rename_i i hi
    cases hle : Nat.ble (off + i.size) n with
    | false => simp [hle] at he
    | true =>
      rw [hle] at he
      simp only [cond_true, AM.ret, Option.some.injEq] at he
      subst he
      have hle := Nat.le_of_ble_eq_true hle
      have hrel := cells_rel hc.cell (k := i.size) hle (by omega)
      refine ⟨.agg ((c.toList.drop (l.sh + off)).take i.size).toArray, ?_, (.agg _ _ hrel.2 hrel.1)⟩
      simp only [asAddr, loadVar, Sem.run_bind, Sem.run_pure, Result.andThen_ok, ra hd, hg]
      rw [if_pos trivial]
      simp only [Sem.run_bind, rs hi, Result.andThen_ok, run_cells hc.heap (show l.sh + off + i.size ≤ c.size by omega), Sem.run_pure]
  | false =>
    rw [hg] at he
    simp only [cond_false] at he
    cases hlt : Nat.blt off n with
    | false => simp [hlt] at he
    | true =>
      rw [hlt] at he
      simp only [cond_true] at he
      have hlt : off < n := by simpa [Nat.blt_eq] using hlt
      obtain ⟨v, v', g1, g2, g3, g4⟩ := hc.cell off hlt
      rw [g1] at he
      simp only [AM.ret, Option.some.injEq] at he
      subst he
      refine ⟨v', ?_, g4⟩
      simp only [asAddr, loadVar, Sem.run_bind, Sem.run_pure, Result.andThen_ok, ra hd, hg]
      simp [cell_at hc.heap, g2]

def resSem (tmps : Array Value) (r : ResultVar) : Sem Value := match r with
  | .tmp t => pure (tmps.getD t undef)
  | .cell a t => do loadVar t (← asAddr (tmps.getD a undef))
theorem results_eq (fn : Func) (tmps : Array Value) : results fn tmps = (do
    let vs ← fn.results.mapM (resSem tmps)
    pure (if h : vs.size = 1 then vs[0] else .tuple vs)) := rfl

theorem res_one {e : Env} {a : Act} {r : ResultVar} {v : Value} (hh : HRel m (mix h N F) w) (hwf : HWf h) (hN : h.nx ≤ N) (hr : ARel m e.at a nt) (hv : resOne P e h r = some v) : ∃ v', (resSem a.tmps r).run P w = .ok v' w ∧ VRel m v v' := by
  cases r with
  | tmp t =>
    have hv' : some (e.at t) = some v := hv
    simp only [Option.some.injEq] at hv'
    subst hv'
    exact ⟨_, by simp [resSem], hr.tm t⟩
  | cell x t =>
    unfold resOne at hv
    simp only at hv
    split at hv <;> try (simp at hv; done)
    rename_i f hf
    simp only [Option.some.injEq] at hv
    subst hv
    exact load_pure hh hwf hN (hr.tm x) hf
theorem res_all {e : Env} {a : Act} (hh : HRel m (mix h N F) w) (hwf : HWf h) (hN : h.nx ≤ N) (hr : ARel m e.at a nt) : ∀ (rs : List ResultVar) (vs : List Value), resAll P e h rs = some vs → ∃ vs', (rs.mapM (resSem a.tmps)).run P w = .ok vs' w ∧ VRels m vs vs' := by
  intro rs
  induction rs with
  | nil =>
    intro vs hv
    simp only [resAll, Option.some.injEq] at hv
    subst hv
    exact ⟨[], by simp, .nil⟩
  | cons r l ih =>
    intro vs hv
    rw [resAll] at hv
    split at hv <;> try (simp at hv; done)
    rename_i v vs1 h1 h2
    simp only [Option.some.injEq] at hv
    subst hv
    obtain ⟨v', a1, a2⟩ := res_one hh hwf hN hr h1
    obtain ⟨vs', b1, b2⟩ := ih vs1 h2
    exact ⟨v' :: vs', by simp [List.mapM_cons, a1, b1], .cons _ _ _ _ a2 b2⟩
theorem resultV_ok {e : Env} {a : Act} {fn : Func} {v : Value} (hh : HRel m (mix h N F) w) (hwf : HWf h) (hN : h.nx ≤ N) (hr : ARel m e.at a nt) (hv : resultV P e h fn.results.toList = some v) :
    ∃ v', (results fn a.tmps).run P w = .ok v' w ∧ VRel m v v' := by
  rw [results_eq, Array.mapM_eq_mapM_toList]
  unfold resultV at hv
  split at hv
  · rename_i r hrs
    obtain ⟨v', a1, a2⟩ := res_one hh hwf hN hr hv
    exact ⟨v', by simp [hrs, List.mapM_cons, a1], a2⟩
  · rename_i hne
    split at hv <;> try (simp at hv; done)
    rename_i vs hvs
    simp only [Option.some.injEq] at hv
    subst hv
    obtain ⟨vs', b1, b2⟩ := res_all hh hwf hN hr _ vs hvs
    refine ⟨.tuple vs'.toArray, ?_, .tuple _ _ b2⟩
    have hlen : vs'.length ≠ 1 := by
      rw [b2.length]
      intro hl
      have : fn.results.toList.length = vs.length := by
        clear hne b1 b2 vs'
        generalize fn.results.toList = rs at hvs
        clear hl
        induction rs generalizing vs with
        | nil => simp only [resAll, Option.some.injEq] at hvs; subst hvs; rfl
        | cons r l ih =>
          rw [resAll] at hvs
          split at hvs <;> try (simp at hvs; done)
          rename_i v1 vs1 h1 h2
          simp only [Option.some.injEq] at hvs
          subst hvs
          simp [ih vs1 h2]
      rw [hl] at this
      obtain ⟨r, hr1⟩ := List.length_eq_one_iff.1 this
      exact hne r hr1
    simp [b1, hlen]

theorem enter_of_ok {f : FuncId} {fn : Func} (hf : P.funcs[f]? = some fn) (hok : fnOk ng fn = true) : Enter P f ∧ ∃ c, fn.body = some c ∧ codeOk ng fn.ntmps c = true := by
  simp only [fnOk, Bool.and_eq_true, bne_iff_ne, ne_eq] at hok
  obtain ⟨h1, h2⟩ := hok
  split at h2 <;> try (simp at h2; done)
  rename_i c hc
  refine ⟨fun args w => ?_, c, hc, h2⟩
  simp [callFunc, hf, h1, hc]

theorem args_rel {args args' : List Value} (ha : VRels m args args') (n : Nat) [D : Ds n] : ARel m (Env.at (storeL .leaf 0 args)) { tmps := args'.toArray ++ Array.replicate (n - args'.toArray.size) undef, defers := D.ds } n := by
  have hl := ha.length
  refine ⟨fun t => ?_, by simp; omega, rfl⟩
  rw [Env.at_eq, get_storeL, Array.getD_eq_getD_getElem?]
  simp only [Array.getElem?_append, List.size_toArray, List.getElem?_toArray, Array.getElem?_replicate, Nat.zero_le, true_and, Nat.zero_add, Nat.sub_zero]
  by_cases ht : t < args.length
  · rw [if_pos ht, if_pos (show t < args'.length by rw [hl]; exact ht)]
    obtain ⟨v', h1, h2⟩ := ha.get (List.getElem?_eq_getElem ht)
    rw [h1, List.getElem?_eq_getElem ht]
    exact h2
  · rw [if_neg ht, if_neg (show ¬ t < args'.length by rw [hl]; exact ht)]
    rw [Trie.get_leaf]; exact .top _

def CallOkAt (P : Program) (ng : Nat) (f : FuncId) (cl : List Value → Heap → Option (Out × Heap)) : Prop := ∀ args h o h', cl args h = some (o, h') → HWf h →
  Enter P f ∧ HWf h' ∧ h.nx ≤ h'.nx ∧ ∀ (N : Nat) (F : Nat → Option Blk) (m : Mp) (w : World) (args' : List Value), h'.nx ≤ N → HRel m (mix h N F) w → GlobOk ng m → VRels m args args' →
    Calls P f args'.toArray w fun e w' => ∃ m', ORel m' o e ∧ HRel m' (mix h' N F) w' ∧ Step m w m' w'
def SpecOk (P : Program) (ng : Nat) (sp : Special) : Prop := ∀ f G, sp f = some G → ∀ cl, CallOk P ng cl → CallOkAt P ng f (G cl)

theorem body_ok (hm : P.follows .mixedOrders = true) {cl : Caller} (hcl : CallOk P ng cl) {f : FuncId} {fn : Func} (hf : P.funcs[f]? = some fn) (hok : fnOk ng fn = true) {c : Code} (hc : fn.body = some c) {fuel : Nat} {ex : AExit} {args : List Value} {e : Env} {o : Out}
    (hrun : engine P cl fuel c (storeL .leaf 0 args) h = some (ex, e, h')) (ho : (∃ v, o = .ret v ∧ (ex = .normal ∨ ex = .ret) ∧ resultV P e h' fn.results.toList = some v) ∨ ∃ v, o = .pan v ∧ ex = .pan v) (hwf : HWf h) :
    Enter P f ∧ HWf h' ∧ h.nx ≤ h'.nx ∧ ∀ (N : Nat) (F : Nat → Option Blk) (m : Mp) (w : World) (args' : List Value), h'.nx ≤ N → HRel m (mix h N F) w → GlobOk ng m → VRels m args args' →
      Calls P f args'.toArray w fun e w' => ∃ m', ORel m' o e ∧ HRel m' (mix h' N F) w' ∧ Step m w m' w' := by
  obtain ⟨hen, c', hc', hcok⟩ := enter_of_ok hf hok
  rw [hc] at hc'
  simp only [Option.some.injEq] at hc'
  subst hc'
  letI : Ds fn.ntmps := ⟨[]⟩
  obtain ⟨a1, a2, a3⟩ := (engine_ok hm hcl fuel).1 c _ _ _ _ _ hcok hrun hwf
  refine ⟨hen, a1, a2, fun N F m w args' hN hh hg ha => calls_of_wp hf hc ?_⟩
  refine a3 N F m w _ _ hN hh hg (args_rel ha _) ?_
  intro m' w' a' x q1 q2 q3 q4
  rcases ho with ⟨v, rfl, hex, hv⟩ | ⟨v, rfl, rfl⟩
  · obtain ⟨v', r1, r2⟩ := resultV_ok q1 a1 hN q3 hv
    have hx : x = .normal ∨ x = .ret := by
      rcases hex with rfl | rfl
      · exact .inl q4
      · exact .inr q4
    rcases hx with rfl | rfl
    · exact ⟨q3.def_, v', r1, m', ⟨v', rfl, r2⟩, q1, q2⟩
    · exact ⟨q3.def_, v', r1, m', ⟨v', rfl, r2⟩, q1, q2⟩
  · obtain ⟨v', hx, hv⟩ := (q4 : ∃ v', x = .panic [{ v := v', recovered := false }] ∧ VRel m' v v')
    subst hx
    exact ⟨q3.def_, m', ⟨v', rfl, hv⟩, q1, q2⟩

theorem callF_ok (hm : P.follows .mixedOrders = true) {sp : Special} (hsp : SpecOk P ng sp) {fuel : Nat} {cl : Caller} (hcl : CallOk P ng cl) : CallOk P ng (callF P ng sp fuel cl) := by
  intro f args h o h' hr hwf
  unfold callF at hr
  split at hr
  · rename_i G hG
    exact hsp f G hG cl hcl args h o h' hr hwf
  · split at hr <;> try (simp at hr; done)
    rename_i fn hf
    cases hok : fnOk ng fn with
    | false => rw [hok] at hr; simp at hr
    | true =>
      rw [hok] at hr
      simp only at hr
      split at hr <;> try (simp at hr; done)
      rename_i c hc
      split at hr <;> try (simp at hr; done)
      · rename_i e h1 hrun
        split at hr <;> try (simp at hr; done)
        rename_i v hv
        simp only [Option.some.injEq, Prod.mk.injEq] at hr
        obtain ⟨rfl, rfl⟩ := hr
        exact body_ok hm hcl hf hok hc hrun (.inl ⟨v, rfl, .inl rfl, hv⟩) hwf
      · rename_i e h1 hrun
        split at hr <;> try (simp at hr; done)
        rename_i v hv
        simp only [Option.some.injEq, Prod.mk.injEq] at hr
        obtain ⟨rfl, rfl⟩ := hr
        exact body_ok hm hcl hf hok hc hrun (.inl ⟨v, rfl, .inr rfl, hv⟩) hwf
      · rename_i v e h1 hrun
        simp only [Option.some.injEq, Prod.mk.injEq] at hr
        obtain ⟨rfl, rfl⟩ := hr
        exact body_ok hm hcl hf hok hc hrun (.inr ⟨v, rfl, rfl⟩) hwf
theorem acall_ok (hm : P.follows .mixedOrders = true) {sp : Special} (hsp : SpecOk P ng sp) (fuel : Nat) : ∀ n, CallOk P ng (acall P ng sp fuel n)
  | 0 => fun f args h o h' hr => by simp [acall] at hr
  | n + 1 => callF_ok hm hsp (acall_ok hm hsp fuel n)
theorem noSpec_ok : SpecOk P ng (fun _ => none) := fun f G h => by cases h
end Go.AM
end
section
/- Rows of cells are one trie each, however they came about: what a store leaves is the row laid anew. No condition. -/
namespace Go.AM
namespace Trie
variable {α : Type}
theorem setP_setP (v w : α) : ∀ (p : Path) (t : Trie α), setP v p (setP w p t) = setP v p t := by
  intro p
  induction p with
  | e => intro t; cases t <;> rfl
  | l p ih =>
    intro t
    cases t with
    | leaf => show Trie.node none (setP v p (setP w p .leaf)) .leaf = Trie.node none (setP v p .leaf) .leaf; rw [ih]
    | node o l r => show Trie.node o (setP v p (setP w p l)) r = Trie.node o (setP v p l) r; rw [ih]
  | r p ih =>
    intro t
    cases t with
    | leaf => show Trie.node none .leaf (setP v p (setP w p .leaf)) = Trie.node none .leaf (setP v p .leaf); rw [ih]
    | node o l r => show Trie.node o l (setP v p (setP w p r)) = Trie.node o l (setP v p r); rw [ih]
theorem setP_comm (v w : α) : ∀ (p q : Path) (t : Trie α), p ≠ q → setP v p (setP w q t) = setP w q (setP v p t) := by
  intro p
  induction p with
  | e =>
    intro q t h
    cases q with
    | e => exact absurd rfl h
    | l q => cases t <;> rfl
    | r q => cases t <;> rfl
  | l p ih =>
    intro q t h
    cases q with
    | e => cases t <;> rfl
    | l q =>
      have h' : p ≠ q := fun e => h (by rw [e])
      cases t with
      | leaf => show Trie.node none (setP v p (setP w q .leaf)) .leaf = Trie.node none (setP w q (setP v p .leaf)) .leaf; rw [ih _ _ h']
      | node o l r => show Trie.node o (setP v p (setP w q l)) r = Trie.node o (setP w q (setP v p l)) r; rw [ih _ _ h']
    | r q => cases t <;> rfl
  | r p ih =>
    intro q t h
    cases q with
    | e => cases t <;> rfl
    | r q =>
      have h' : p ≠ q := fun e => h (by rw [e])
      cases t with
      | leaf => show Trie.node none .leaf (setP v p (setP w q .leaf)) = Trie.node none .leaf (setP w q (setP v p .leaf)); rw [ih _ _ h']
      | node o l r => show Trie.node o l (setP v p (setP w q r)) = Trie.node o l (setP w q (setP v p r)); rw [ih _ _ h']
    | l q => cases t <;> rfl
theorem set_set (t : Trie α) (k : Nat) (v w : α) : (t.set k w).set k v = t.set k v := setP_setP v w (path k) t
theorem set_comm (t : Trie α) {k k' : Nat} (v w : α) (h : k ≠ k') : (t.set k' w).set k v = (t.set k v).set k' w :=
  setP_comm v w (path k) (path k') t fun e => h (path_inj _ _ _ (Nat.lt_succ_self _) e)
end Trie

theorem storeL_append (a : List Value) : ∀ (t : Trie Value) (o : Nat) (b : List Value), storeL t o (a ++ b) = storeL (storeL t o a) (o + a.length) b := by
  induction a with
  | nil => intro t o b; rfl
  | cons v r ih =>
    intro t o b
    rw [List.cons_append, storeL_cons, storeL_cons, ih, List.length_cons, show o + 1 + r.length = o + (r.length + 1) by omega]
theorem ofList_snoc (l : List Value) (x : Value) : ofList (l ++ [x]) = (ofList l).set l.length x := by
  unfold ofList
  rw [storeL_append, storeL_cons, storeL_nil, Nat.zero_add]
theorem set_ofList (v : Value) : ∀ (n : Nat) (l : List Value) (k : Nat), l.length = n → k < n → (ofList l).set k v = ofList (l.set k v) := by
  intro n
  induction n with
  | zero => intro l k _ h; omega
  | succ n ih =>
    intro l k hl hk
    have hne : l ≠ [] := by intro e; rw [e] at hl; simp at hl
    obtain ⟨i, x, rfl⟩ : ∃ i x, l = i ++ [x] := ⟨_, _, (List.dropLast_concat_getLast hne).symm⟩
    have hi : i.length = n := by simpa using hl
    rw [ofList_snoc]
    by_cases e : k = i.length
    · subst e
      rw [Trie.set_set, List.set_append_right _ _ (Nat.le_refl _), Nat.sub_self, List.set_cons_zero, ofList_snoc]
    · rw [Trie.set_comm _ _ _ e, ih i k hi (by omega), List.set_append_left _ _ (by omega), ofList_snoc, List.length_set]
theorem length_overC {cs vs : List Value} {off : Nat} (h : off + vs.length ≤ cs.length) : (overL cs off vs).length = cs.length := by
  unfold overL
  simp only [List.length_append, List.length_take, List.length_drop]
  omega
theorem overC_get {cs vs : List Value} {off i : Nat} (h : off + vs.length ≤ cs.length) : (overL cs off vs)[i]? = if off ≤ i ∧ i < off + vs.length then vs[i - off]? else cs[i]? := by
  unfold overL
  have ht : (cs.take off).length = off := by rw [List.length_take]; omega
  by_cases h1 : i < off
  · rw [if_neg (by omega), List.append_assoc, List.getElem?_append_left (by omega), List.getElem?_take, if_pos h1]
  · by_cases h2 : i < off + vs.length
    · rw [if_pos (by omega), List.append_assoc, List.getElem?_append_right (by omega), ht, List.getElem?_append_left (by omega)]
    · rw [if_neg (by omega), List.getElem?_append_right (by simp only [List.length_append]; omega), List.getElem?_drop]
      simp only [List.length_append, ht]
      congr 1
      omega
theorem overL_nil (cs : List Value) (off : Nat) : overL cs off [] = cs := by
  unfold overL
  simp
theorem overL_one {cs : List Value} {off : Nat} (v : Value) (h : off < cs.length) : overL cs off [v] = cs.set off v := by
  apply List.ext_getElem?
  intro i
  rw [overC_get (by simp; omega), List.getElem?_set]
  simp only [List.length_cons, List.length_nil, Nat.zero_add]
  by_cases e : off = i
  · subst e; rw [if_pos (by omega), if_pos rfl, if_pos h]; simp
  · rw [if_neg (by omega), if_neg e]
theorem overL_cons {cs : List Value} {off : Nat} (v : Value) (r : List Value) (h : off + (r.length + 1) ≤ cs.length) : overL (cs.set off v) (off + 1) r = overL cs off (v :: r) := by
  apply List.ext_getElem?
  intro i
  rw [overC_get (by rw [List.length_set]; omega), overC_get (by rw [List.length_cons]; omega), List.getElem?_set, List.length_cons]
  by_cases e : i = off
  · subst e; rw [if_neg (by omega), if_pos rfl, if_pos (by omega), if_pos (by omega)]; simp
  · by_cases h1 : off ≤ i ∧ i < off + (r.length + 1)
    · rw [if_pos (by omega), if_pos h1, show i - off = (i - (off + 1)) + 1 by omega, List.getElem?_cons_succ]
    · rw [if_neg (by omega), if_neg h1, if_neg (by omega)]
theorem storeL_ofList (vs : List Value) : ∀ (l : List Value) (off : Nat), off + vs.length ≤ l.length → storeL (ofList l) off vs = ofList (overL l off vs) := by
  induction vs with
  | nil => intro l off _; rw [storeL_nil, overL_nil]
  | cons v r ih =>
    intro l off h
    rw [List.length_cons] at h
    rw [storeL_cons, set_ofList v l.length l off rfl (by omega), ih _ _ (by rw [List.length_set]; omega), overL_cons v r h]
theorem loadL_ofList (l : List Value) (off n : Nat) (h : off + n ≤ l.length) : loadL (ofList l) off n = (l.drop off).take n := by
  apply List.ext_getElem?
  intro i
  by_cases hi : i < n
  · rw [getElem_loadL _ _ _ _ hi, get_ofList, List.getElem?_take, if_pos hi, List.getElem?_drop, List.getElem?_eq_getElem (by omega)]
    rfl
  · rw [List.getElem?_eq_none (by rw [length_loadL]; omega), List.getElem?_eq_none (by rw [List.length_take]; omega)]

noncomputable def cellsB (l : List Value) (k : Kind) : Blk := .cells (ofList l) l.length k
noncomputable def Heap.upd (h : Heap) (b : Nat) (x : Blk) : Heap := ⟨h.t.set b x, h.nx⟩
noncomputable def Heap.new (h : Heap) (x : Blk) : Heap := ⟨h.t.set h.nx x, h.nx + 1⟩
theorem Heap.get_upd_same (h : Heap) (b : Nat) (x : Blk) : (h.upd b x).get b = some x := Trie.get_set_same _ _ _
theorem Heap.get_upd_ne (h : Heap) {b : Nat} (x : Blk) {b' : Nat} (hne : b' ≠ b) : (h.upd b x).get b' = h.get b' := Trie.get_set_ne _ _ hne
theorem Heap.nx_upd (h : Heap) (b : Nat) (x : Blk) : (h.upd b x).nx = h.nx := rfl
theorem Heap.get_new_same (h : Heap) (x : Blk) : (h.new x).get h.nx = some x := Trie.get_set_same _ _ _
theorem Heap.get_new_ne (h : Heap) (x : Blk) {b' : Nat} (hne : b' ≠ h.nx) : (h.new x).get b' = h.get b' := Trie.get_set_ne _ _ hne
theorem Heap.nx_new (h : Heap) (x : Blk) : (h.new x).nx = h.nx + 1 := rfl
theorem Heap.upd_upd (h : Heap) (b : Nat) (x y : Blk) : (h.upd b x).upd b y = h.upd b y := by
  unfold Heap.upd
  rw [Trie.set_set]
theorem Heap.apply_none (h : Heap) (v : Value) : h.apply ⟨v, [], []⟩ = h := rfl
theorem Heap.apply_wr (h : Heap) (v : Value) (b : Nat) (x : Blk) : h.apply ⟨v, [(b, x)], []⟩ = h.upd b x := rfl
theorem Heap.apply_nw (h : Heap) (v : Value) (x : Blk) : h.apply ⟨v, [], [x]⟩ = h.new x := rfl
theorem Heap.apply_wr_nw (h : Heap) (v : Value) (b : Nat) (x y : Blk) : h.apply ⟨v, [(b, x)], [y]⟩ = (h.upd b x).new y := rfl
end Go.AM
end
section
/- Running with values that are not known in full: a small machine whose states are data (frames, control, temporaries, heap), each step a rule; what it reaches the functions reach. Condition: the end satisfies what is asked. -/
namespace Go.AM

inductive Frm where
  | seq (b : Code) | blk (id : Nat) | again (body : Code) | scope (body : Code)
inductive Ctl where
  | code (c : Code)
  | ops (all l : List Oper)
  | rcd (ps : List (Nat × Nat)) (all l : List Oper) (acc : List Did)
  | exit (ex : AExit)

def plainOp : Op → Bool
  | .call c => match c.callee with
    | .builtin _ => true
    | _ => false
  | .panic _ => false
  | .entry _ => false
  | _ => true
noncomputable def didsOk (ps : List (Nat × Nat)) (l : List Did) : Bool := ps.all fun p => match l[p.1]?, l[p.2]? with
  | some x, some y => swapOk x y
  | _, _ => true
def isCallee : Call → Bool
  | c => match c.callee with
    | .builtin _ => false
    | _ => true

section
variable (P : Program) (ng : Nat) (sp : Special)
def EvF (f : FuncId) (args : List Value) (h : Heap) (r : Out × Heap) : Prop := ∃ N, ∀ fu d, N ≤ fu → N ≤ d → acall P ng sp fu d f args h = some r
def EvC (c : Code) (e : Env) (h : Heap) (x : AExit × Env × Heap) : Prop := ∃ N, ∀ fu d n, N ≤ fu → N ≤ d → N ≤ n → engine P (acall P ng sp fu d) n c e h = some x
def EvS (body c : Code) (e : Env) (h : Heap) (x : AExit × Env × Heap) : Prop := ∃ N, ∀ fu d n m, N ≤ fu → N ≤ d → N ≤ n → N ≤ m → scopeRun (engine P (acall P ng sp fu d) n) body m c e h = some x
def EvO (all l : List Oper) (e : Env) (h : Heap) (x : AExit × Env × Heap) : Prop := ∃ N, ∀ fu d, N ≤ fu → N ≤ d → runOps P (acall P ng sp fu d) all l e h = some x
def EvR (all l : List Oper) (e : Env) (h : Heap) (x : Env × Heap × List Did) : Prop := ∃ N, ∀ fu d, N ≤ fu → N ≤ d → runRec P (acall P ng sp fu d) all l e h = some x

variable (Q : AExit → Env → Heap → Prop)
inductive Run : List Frm → Ctl → Env → Heap → Prop
  | done {ex e h} : Q ex e h → Run [] (.exit ex) e h
  | skip {K e h} : Run K (.exit .normal) e h → Run K (.code .skip) e h
  | label {K l e h} : Run K (.exit .normal) e h → Run K (.code (.label l)) e h
  | ret {K e h} : Run K (.exit .ret) e h → Run K (.code .ret) e h
  | goto {K l e h} : Run K (.exit (.goto l)) e h → Run K (.code (.goto l)) e h
  | leave {K i e h} : Run K (.exit (.exit i)) e h → Run K (.code (.exit i)) e h
  | seq {K a b e h} : Run (.seq b :: K) (.code a) e h → Run K (.code (.seq a b)) e h
  | cond {K x a b t e h} : e.eval x = .bool t → Run K (.code (bif t then a else b)) e h → Run K (.code (.cond x a b)) e h
  | block {K id b e h} : Run (.blk id :: K) (.code b) e h → Run K (.code (.block id b)) e h
  | loop {K body e h} : (mapLoopOf body).isNone = true → Run (.again body :: K) (.code body) e h → Run K (.code (.loop body)) e h
  | scope {K body e h} : Run (.scope body :: K) (.code body) e h → Run K (.code (.scope body)) e h
  | region {K id ops e h} : Run K (.ops ops.toList ops.toList) e h → Run K (.code (.region id ops false)) e h
  | draw {K id ops ps e h} : drawText ops = true → dynPairs ops.toList = ps → Run K (.rcd ps ops.toList ops.toList []) e h → Run K (.code (.region id ops true)) e h
  | xseq {K b e h} : Run K (.code b) e h → Run (.seq b :: K) (.exit .normal) e h
  | xseq' {K b ex e h} : ex ≠ .normal → Run K (.exit ex) e h → Run (.seq b :: K) (.exit ex) e h
  | xblk {K id e h} : Run K (.exit .normal) e h → Run (.blk id :: K) (.exit (.exit id)) e h
  | xblk' {K id ex e h} : ex ≠ .exit id → Run K (.exit ex) e h → Run (.blk id :: K) (.exit ex) e h
  | xagain {K b e h} : Run K (.code (.loop b)) e h → Run (.again b :: K) (.exit .normal) e h
  | xagain' {K b ex e h} : ex ≠ .normal → Run K (.exit ex) e h → Run (.again b :: K) (.exit ex) e h
  | xscope {K body l rest e h} : findLabel body l = some rest → Run (.scope body :: K) (.code rest) e h → Run (.scope body :: K) (.exit (.goto l)) e h
  | xscope' {K body ex e h} : (∀ l, ex ≠ .goto l) → Run K (.exit ex) e h → Run (.scope body :: K) (.exit ex) e h
  | onil {K all e h} : Run K (.exit .normal) e h → Run K (.ops all []) e h
  | oskip {K all o r e h} : guardOk all e o = true → wantedA all e o = false → Run K (.ops all r) (e.put o.dst undef) h → Run K (.ops all (o :: r)) e h
  | oeff {K all o r f e h} : guardOk all e o = true → wantedA all e o = true → plainOp o.op = true → eff P o.op e.eval h.get h.nx = some f → Run K (.ops all r) (e.put o.dst f.val) (h.apply f) → Run K (.ops all (o :: r)) e h
  | ocall {K all o r c x v e h h'} : guardOk all e o = true → wantedA all e o = true → o.op = .call c → isCallee c = true → callee P c e.eval = some x → EvF P ng sp x.1 x.2 h (.ret v, h') → Run K (.ops all r) (e.put o.dst v) h' → Run K (.ops all (o :: r)) e h
  | ocallp {K all o r c x v e h h'} : guardOk all e o = true → wantedA all e o = true → o.op = .call c → isCallee c = true → callee P c e.eval = some x → EvF P ng sp x.1 x.2 h (.pan v, h') → Run K (.exit (.pan v)) e h' → Run K (.ops all (o :: r)) e h
  | opanic {K all o r x t v e h} : guardOk all e o = true → wantedA all e o = true → o.op = .panic x → e.eval x = .iface t v → Run K (.exit (.pan (.iface t v))) e h → Run K (.ops all (o :: r)) e h
  | rnil {K ps all acc e h} : didsOk ps acc = true → Run K (.exit .normal) e h → Run K (.rcd ps all [] acc) e h
  | rskip {K ps all o r acc e h} : guardOk all e o = true → wantedA all e o = false → Run K (.rcd ps all r (acc ++ [.skip])) (e.put o.dst undef) h → Run K (.rcd ps all (o :: r) acc) e h
  | reff {K ps all o r acc f e h} : guardOk all e o = true → wantedA all e o = true → plainOp o.op = true → eff P o.op e.eval h.get h.nx = some f → Run K (.rcd ps all r (acc ++ [.eff (foot o.op e.eval) f h.nx])) (e.put o.dst f.val) (h.apply f) → Run K (.rcd ps all (o :: r) acc) e h
  | rcall {K ps all o r acc c x v e h h'} : guardOk all e o = true → wantedA all e o = true → o.op = .call c → isCallee c = true → callee P c e.eval = some x → EvF P ng sp x.1 x.2 h (.ret v, h') → Run K (.rcd ps all r (acc ++ [.call h h'])) (e.put o.dst v) h' → Run K (.rcd ps all (o :: r) acc) e h

def SemX : List Frm → AExit → Env → Heap → Prop
  | [], ex, e, h => Q ex e h
  | .seq b :: K, ex, e, h => match ex with
    | .normal => ∃ ex' e' h', EvC P ng sp b e h (ex', e', h') ∧ SemX K ex' e' h'
    | ex => SemX K ex e h
  | .blk id :: K, ex, e, h => match ex with
    | .exit i => if i = id then SemX K .normal e h else SemX K (.exit i) e h
    | ex => SemX K ex e h
  | .again b :: K, ex, e, h => match ex with
    | .normal => ∃ ex' e' h', EvC P ng sp (.loop b) e h (ex', e', h') ∧ SemX K ex' e' h'
    | ex => SemX K ex e h
  | .scope body :: K, ex, e, h => match ex with
    | .goto l => ∃ rest, findLabel body l = some rest ∧ ∃ ex' e' h', EvS P ng sp body rest e h (ex', e', h') ∧ SemX K ex' e' h'
    | ex => SemX K ex e h
def Sem (K : List Frm) (x : Ctl) (e : Env) (h : Heap) : Prop := match x with
  | .code c => ∃ ex' e' h', EvC P ng sp c e h (ex', e', h') ∧ SemX P ng sp Q K ex' e' h'
  | .ops all l => ∃ ex' e' h', EvO P ng sp all l e h (ex', e', h') ∧ SemX P ng sp Q K ex' e' h'
  | .rcd ps all l acc => ∃ e' h' ds, EvR P ng sp all l e h (e', h', ds) ∧ didsOk ps (acc ++ ds) = true ∧ SemX P ng sp Q K .normal e' h'
  | .exit ex => SemX P ng sp Q K ex e h
end

section
variable {P : Program} {ng : Nat} {sp : Special} {Q : AExit → Env → Heap → Prop}
theorem engine_succ (cl : Caller) (n : Nat) (c : Code) (e : Env) (h : Heap) : engine P cl (n + 1) c e h = engC c P cl n (engine P cl n) e h := rfl
theorem acall_succ (fu d : Nat) (f : FuncId) (args : List Value) (h : Heap) : acall P ng sp fu (d + 1) f args h = callF P ng sp fu (acall P ng sp fu d) f args h := rfl
theorem EvC.step {c : Code} {e : Env} {h : Heap} {x : AExit × Env × Heap} (hs : ∃ N, ∀ fu d n, N ≤ fu → N ≤ d → N ≤ n → engC c P (acall P ng sp fu d) n (engine P (acall P ng sp fu d) n) e h = some x) : EvC P ng sp c e h x := by
  obtain ⟨N, hN⟩ := hs
  refine ⟨N + 1, fun fu d n h1 h2 h3 => ?_⟩
  obtain ⟨n, rfl⟩ : ∃ k, n = k + 1 := ⟨n - 1, by omega⟩
  rw [engine_succ]
  exact hN fu d n (by omega) (by omega) (by omega)
theorem EvC.seqN {a b : Code} {e e1 : Env} {h h1 : Heap} {x : AExit × Env × Heap} (ha : EvC P ng sp a e h (.normal, e1, h1)) (hb : EvC P ng sp b e1 h1 x) : EvC P ng sp (.seq a b) e h x := by
  obtain ⟨N, hN⟩ := ha
  obtain ⟨M, hM⟩ := hb
  refine EvC.step ⟨max N M, fun fu d n h1 h2 h3 => ?_⟩
  show onNormal (engine P (acall P ng sp fu d) n a e h) (engine P (acall P ng sp fu d) n b) = some x
  rw [hN fu d n (by omega) (by omega) (by omega), onNormal_eq]
  exact hM fu d n (by omega) (by omega) (by omega)
theorem EvC.seqX {a b : Code} {e e1 : Env} {h h1 : Heap} {ex : AExit} (ha : EvC P ng sp a e h (ex, e1, h1)) (hx : ex ≠ .normal) : EvC P ng sp (.seq a b) e h (ex, e1, h1) := by
  obtain ⟨N, hN⟩ := ha
  refine EvC.step ⟨N, fun fu d n h1 h2 h3 => ?_⟩
  show onNormal (engine P (acall P ng sp fu d) n a e h) (engine P (acall P ng sp fu d) n b) = some _
  rw [hN fu d n (by omega) (by omega) (by omega), onNormal_eq]
  cases ex <;> first | exact absurd rfl hx | rfl
theorem EvC.loopN {a : Code} (hm : (mapLoopOf a).isNone = true) {e e1 : Env} {h h1 : Heap} {x : AExit × Env × Heap} (ha : EvC P ng sp a e h (.normal, e1, h1)) (hb : EvC P ng sp (.loop a) e1 h1 x) : EvC P ng sp (.loop a) e h x := by
  obtain ⟨N, hN⟩ := ha
  obtain ⟨M, hM⟩ := hb
  have hm : mapLoopOf a = none := by simpa using hm
  refine EvC.step ⟨max N M, fun fu d n h1 h2 h3 => ?_⟩
  show (match mapLoopOf a with
    | some (it, tup, okT, c2) => explore (engine P (acall P ng sp fu d) n) it tup okT c2 n e h
    | none => onNormal (engine P (acall P ng sp fu d) n a e h) (engine P (acall P ng sp fu d) n (.loop a))) = some x
  rw [hm]
  simp only
  rw [hN fu d n (by omega) (by omega) (by omega), onNormal_eq]
  exact hM fu d n (by omega) (by omega) (by omega)
theorem EvC.loopX {a : Code} (hm : (mapLoopOf a).isNone = true) {e e1 : Env} {h h1 : Heap} {ex : AExit} (ha : EvC P ng sp a e h (ex, e1, h1)) (hx : ex ≠ .normal) : EvC P ng sp (.loop a) e h (ex, e1, h1) := by
  obtain ⟨N, hN⟩ := ha
  have hm : mapLoopOf a = none := by simpa using hm
  refine EvC.step ⟨N, fun fu d n h1 h2 h3 => ?_⟩
  show (match mapLoopOf a with
    | some (it, tup, okT, c2) => explore (engine P (acall P ng sp fu d) n) it tup okT c2 n e h
    | none => onNormal (engine P (acall P ng sp fu d) n a e h) (engine P (acall P ng sp fu d) n (.loop a))) = some _
  rw [hm]
  simp only
  rw [hN fu d n (by omega) (by omega) (by omega), onNormal_eq]
  cases ex <;> first | exact absurd rfl hx | rfl
theorem EvC.blk {a : Code} {id : Nat} {e e1 : Env} {h h1 : Heap} {ex : AExit} (ha : EvC P ng sp a e h (ex, e1, h1)) : EvC P ng sp (.block id a) e h ((match ex with | .exit i => if i = id then .normal else .exit i | x => x), e1, h1) := by
  obtain ⟨N, hN⟩ := ha
  refine EvC.step ⟨N, fun fu d n h1 h2 h3 => ?_⟩
  show onExit (engine P (acall P ng sp fu d) n a e h) id = some _
  rw [hN fu d n (by omega) (by omega) (by omega), onExit_eq]
  cases ex with
  | exit i =>
    simp only
    by_cases e : i = id
    · subst e
      rw [if_pos rfl, show Nat.beq i i = true from Nat.beq_refl i]
    · rw [if_neg e, show Nat.beq i id = false from by rw [← Bool.not_eq_true, Nat.beq_eq]; exact e]
  | _ => rfl
theorem EvC.reg {ops : Array Oper} {id : Nat} {e : Env} {h : Heap} {x : AExit × Env × Heap} (ha : EvO P ng sp ops.toList ops.toList e h x) : EvC P ng sp (.region id ops false) e h x := by
  obtain ⟨N, hN⟩ := ha
  exact EvC.step ⟨N, fun fu d n h1 h2 h3 => hN fu d h1 h2⟩
theorem EvC.drw {ops : Array Oper} {id : Nat} {ps : List (Nat × Nat)} {e e' : Env} {h h' : Heap} {ds : List Did} (ht : drawText ops = true) (hp : dynPairs ops.toList = ps) (ha : EvR P ng sp ops.toList ops.toList e h (e', h', ds)) (hd : didsOk ps ds = true) : EvC P ng sp (.region id ops true) e h (.normal, e', h') := by
  obtain ⟨N, hN⟩ := ha
  refine EvC.step ⟨N, fun fu d n h1 h2 h3 => ?_⟩
  show runDraw P (acall P ng sp fu d) ops e h = some _
  unfold runDraw
  rw [ht, hN fu d h1 h2]
  simp only
  subst hp
  have hd : drawDid2 ops.toList ds = true := hd
  rw [hd]
theorem EvS.here {body c : Code} {e e1 : Env} {h h1 : Heap} {ex : AExit} (ha : EvC P ng sp c e h (ex, e1, h1)) (hx : ∀ l, ex ≠ .goto l) : EvS P ng sp body c e h (ex, e1, h1) := by
  obtain ⟨N, hN⟩ := ha
  refine ⟨N + 1, fun fu d n m h1 h2 h3 h4 => ?_⟩
  obtain ⟨m, rfl⟩ : ∃ k, m = k + 1 := ⟨m - 1, by omega⟩
  rw [scopeRun, hN fu d n (by omega) (by omega) (by omega)]
  cases ex <;> first | rfl | exact absurd rfl (hx _)
theorem EvS.more {body c rest : Code} {e e1 : Env} {h h1 : Heap} {l : Nat} {x : AExit × Env × Heap} (ha : EvC P ng sp c e h (.goto l, e1, h1)) (hl : findLabel body l = some rest) (hb : EvS P ng sp body rest e1 h1 x) : EvS P ng sp body c e h x := by
  obtain ⟨N, hN⟩ := ha
  obtain ⟨M, hM⟩ := hb
  refine ⟨max N M + 1, fun fu d n m h1 h2 h3 h4 => ?_⟩
  obtain ⟨m, rfl⟩ : ∃ k, m = k + 1 := ⟨m - 1, by omega⟩
  rw [scopeRun, hN fu d n (by omega) (by omega) (by omega)]
  simp only
  rw [hl]
  exact hM fu d n m (by omega) (by omega) (by omega) (by omega)
theorem EvC.scp {body : Code} {e : Env} {h : Heap} {x : AExit × Env × Heap} (ha : EvS P ng sp body body e h x) : EvC P ng sp (.scope body) e h x := by
  obtain ⟨N, hN⟩ := ha
  exact EvC.step ⟨N, fun fu d n h1 h2 h3 => hN fu d n n h1 h2 h3 h3⟩
theorem plain_do {cl : Caller} {all : List Oper} {o : Oper} {k : Env → Heap → Res} {e : Env} {h : Heap} {f : Eff} (hg : guardOk all e o = true) (hw : wantedA all e o = true) (hp : plainOp o.op = true) (hf : eff P o.op e.eval h.get h.nx = some f) :
    runOp P cl all o k e h = k (e.put o.dst f.val) (h.apply f) := by
  rw [runOp_eq, runOpS, hg, hw]
  simp only
  obtain ⟨dst, op, type, pos, after, guard⟩ := o
  simp only at hp hf ⊢
  cases op <;> first | (exact absurd hp Bool.false_ne_true) | (simp only; rw [hf]; done) | skip
  rename_i c
  obtain ⟨ce, as, ts⟩ := c
  cases ce with
  | builtin b =>
    have hf : builtinEff P b ts (as.toList.map e.eval) h.get h.nx = some f := hf
    simp only
    rw [hf]
  | value _ => exact absurd hp Bool.false_ne_true
  | invoke _ _ => exact absurd hp Bool.false_ne_true
theorem call_do {cl : Caller} {all : List Oper} {o : Oper} {k : Env → Heap → Res} {e : Env} {h : Heap} {c : Call} {x : FuncId × List Value} (hg : guardOk all e o = true) (hw : wantedA all e o = true) (ho : o.op = .call c) (hc : isCallee c = true) (hx : callee P c e.eval = some x) :
    runOp P cl all o k e h = (match cl x.1 x.2 h with
      | some (.ret v, h') => k (e.put o.dst v) h'
      | some (.pan v, h') => some (.pan v, e, h')
      | none => none) := by
  rw [runOp_eq, runOpS, hg, hw]
  simp only
  rw [ho]
  obtain ⟨ce, as, ts⟩ := c
  cases ce with
  | builtin b => exact absurd hc Bool.false_ne_true
  | value _ => simp only; rw [hx]; rfl
  | invoke _ _ => simp only; rw [hx]; rfl
theorem runRec_skip {cl : Caller} {all : List Oper} {o : Oper} {r : List Oper} {e : Env} {h : Heap} (hg : guardOk all e o = true) (hw : wantedA all e o = false) :
    runRec P cl all (o :: r) e h = (match runRec P cl all r (e.put o.dst undef) h with
      | some (e', h'', l) => some (e', h'', .skip :: l)
      | none => none) := by
  rw [runRec_eq, runRec_eq, runRecS, hg, hw]
  simp
  rfl
theorem runRec_eff {cl : Caller} {all : List Oper} {o : Oper} {r : List Oper} {e : Env} {h : Heap} {f : Eff} (hg : guardOk all e o = true) (hw : wantedA all e o = true) (hp : plainOp o.op = true) (hf : eff P o.op e.eval h.get h.nx = some f) :
    runRec P cl all (o :: r) e h = (match runRec P cl all r (e.put o.dst f.val) (h.apply f) with
      | some (e', h'', l) => some (e', h'', .eff (foot o.op e.eval) f h.nx :: l)
      | none => none) := by
  rw [runRec_eq, runRec_eq, runRecS, hg, hw]
  have hc : runRecS.callOf o.op = none := by
    unfold runRecS.callOf
    cases ho : o.op <;> first | rfl | skip
    rename_i c
    rw [ho] at hp
    obtain ⟨ce, as, ts⟩ := c
    cases ce <;> first | rfl | exact absurd hp Bool.false_ne_true
  simp only [hc, hf]
  simp
  rfl
theorem runRec_call {cl : Caller} {all : List Oper} {o : Oper} {r : List Oper} {e : Env} {h : Heap} {c : Call} {x : FuncId × List Value} (hg : guardOk all e o = true) (hw : wantedA all e o = true) (ho : o.op = .call c) (hc : isCallee c = true) (hx : callee P c e.eval = some x) :
    runRec P cl all (o :: r) e h = (match cl x.1 x.2 h with
      | some (.ret v, h') => (match runRec P cl all r (e.put o.dst v) h' with
        | some (e', h'', l) => some (e', h'', .call h h' :: l)
        | none => none)
      | _ => none) := by
  rw [runRec_eq, runRecS, hg, hw]
  have hc : runRecS.callOf o.op = some c := by
    rw [ho]
    obtain ⟨ce, as, ts⟩ := c
    cases ce <;> first | rfl | exact absurd hc Bool.false_ne_true
  simp only [hc, hx]
  cases cl x.1 x.2 h with
  | none => simp
  | some y =>
    obtain ⟨o', h'⟩ := y
    cases o' with
    | ret v => simp only [runRec_eq]; simp; rfl
    | pan v => simp

theorem Run.sem {K : List Frm} {x : Ctl} {e : Env} {h : Heap} (hr : Run P ng sp Q K x e h) : Sem P ng sp Q K x e h := by
  induction hr with
  | done hq => exact hq
  | skip _ ih => exact ⟨_, _, _, EvC.step ⟨0, fun _ _ _ _ _ _ => rfl⟩, ih⟩
  | label _ ih => exact ⟨_, _, _, EvC.step ⟨0, fun _ _ _ _ _ _ => rfl⟩, ih⟩
  | ret _ ih => exact ⟨_, _, _, EvC.step ⟨0, fun _ _ _ _ _ _ => rfl⟩, ih⟩
  | goto _ ih => exact ⟨_, _, _, EvC.step ⟨0, fun _ _ _ _ _ _ => rfl⟩, ih⟩
  | leave _ ih => exact ⟨_, _, _, EvC.step ⟨0, fun _ _ _ _ _ _ => rfl⟩, ih⟩
  | seq _ ih =>
    obtain ⟨ex, e1, h1, he, hx⟩ := ih
    cases ex with
    | normal =>
      obtain ⟨ex', e', h', hb, hx⟩ := hx
      exact ⟨_, _, _, he.seqN hb, hx⟩
    | _ => exact ⟨_, _, _, he.seqX (by simp), hx⟩
  | @cond K x a b t e h ht _ ih =>
    obtain ⟨ex, e1, h1, ⟨N, hN⟩, hx⟩ := ih
    refine ⟨_, _, _, EvC.step ⟨N, fun fu d n h1 h2 h3 => ?_⟩, hx⟩
    show (match e.eval x with
      | .bool t => engine P (acall P ng sp fu d) n (Bool.rec b a t) e h
      | _ => none) = _
    rw [ht]
    simp only
    rw [← hN fu d n h1 h2 h3]
    cases t <;> rfl
  | block _ ih =>
    obtain ⟨ex, e1, h1, he, hx⟩ := ih
    refine ⟨_, _, _, he.blk, ?_⟩
    cases ex with
    | exit i =>
      have hx : (if i = _ then _ else _) := hx
      simp only
      split
      · rename_i hi; rw [if_pos hi] at hx; exact hx
      · rename_i hi; rw [if_neg hi] at hx; exact hx
    | _ => exact hx
  | loop hm _ ih =>
    obtain ⟨ex, e1, h1, he, hx⟩ := ih
    cases ex with
    | normal =>
      obtain ⟨ex', e', h', hb, hx⟩ := hx
      exact ⟨_, _, _, he.loopN hm hb, hx⟩
    | _ => exact ⟨_, _, _, he.loopX hm (by simp), hx⟩
  | scope _ ih =>
    obtain ⟨ex, e1, h1, he, hx⟩ := ih
    cases ex with
    | goto l =>
      obtain ⟨rest, hl, ex', e', h', hb, hx⟩ := hx
      exact ⟨_, _, _, .scp (EvS.more he hl hb), hx⟩
    | _ => exact ⟨_, _, _, .scp (EvS.here he (by simp)), hx⟩
  | region _ ih =>
    obtain ⟨ex, e1, h1, he, hx⟩ := ih
    exact ⟨_, _, _, EvC.reg he, hx⟩
  | draw ht hp _ ih =>
    obtain ⟨e1, h1, ds, he, hd, hx⟩ := ih
    exact ⟨_, _, _, EvC.drw ht hp he hd, hx⟩
  | xseq _ ih => exact ih
  | @xseq' K b ex e h hn _ ih =>
    cases ex <;> first | exact absurd rfl hn | exact ih
  | xblk _ ih =>
    show if _ then _ else _
    rw [if_pos rfl]
    exact ih
  | @xblk' K id ex e h hn _ ih =>
    cases ex with
    | exit i =>
      show if _ then _ else _
      rw [if_neg (fun e => hn (by rw [e]))]
      exact ih
    | _ => exact ih
  | xagain _ ih => exact ih
  | @xagain' K b ex e h hn _ ih =>
    cases ex <;> first | exact absurd rfl hn | exact ih
  | xscope hl _ ih =>
    obtain ⟨ex, e1, h1, he, hx⟩ := ih
    refine ⟨_, hl, ?_⟩
    cases ex with
    | goto l =>
      obtain ⟨rest, hl, ex', e', h', hb, hx⟩ := hx
      exact ⟨_, _, _, EvS.more he hl hb, hx⟩
    | _ => exact ⟨_, _, _, EvS.here he (by simp), hx⟩
  | @xscope' K body ex e h hn _ ih =>
    cases ex <;> first | exact absurd rfl (hn _) | exact ih
  | onil _ ih => exact ⟨_, _, _, ⟨0, fun _ _ _ _ => rfl⟩, ih⟩
  | oskip hg hw _ ih =>
    obtain ⟨ex, e1, h1, ⟨N, hN⟩, hx⟩ := ih
    refine ⟨_, _, _, ⟨N, fun fu d h1 h2 => ?_⟩, hx⟩
    rw [runOps_cons, runOp_false hg hw]
    exact hN fu d h1 h2
  | oeff hg hw hp hf _ ih =>
    obtain ⟨ex, e1, h1, ⟨N, hN⟩, hx⟩ := ih
    refine ⟨_, _, _, ⟨N, fun fu d h1 h2 => ?_⟩, hx⟩
    rw [runOps_cons, plain_do hg hw hp hf]
    exact hN fu d h1 h2
  | ocall hg hw ho hc hx hf _ ih =>
    obtain ⟨ex, e1, h1, ⟨N, hN⟩, hx'⟩ := ih
    obtain ⟨M, hM⟩ := hf
    refine ⟨_, _, _, ⟨max N M, fun fu d h1 h2 => ?_⟩, hx'⟩
    rw [runOps_cons, call_do hg hw ho hc hx, hM fu d (by omega) (by omega)]
    exact hN fu d (by omega) (by omega)
  | ocallp hg hw ho hc hx hf _ ih =>
    obtain ⟨M, hM⟩ := hf
    refine ⟨_, _, _, ⟨M, fun fu d h1 h2 => ?_⟩, ih⟩
    rw [runOps_cons, call_do hg hw ho hc hx, hM fu d (by omega) (by omega)]
  | opanic hg hw ho hx _ ih =>
    refine ⟨_, _, _, ⟨0, fun fu d h1 h2 => ?_⟩, ih⟩
    rw [runOps_cons, runOp_eq, runOpS, hg, hw]
    simp only
    rw [ho]
    simp only
    rw [hx]
  | rnil hd _ ih => exact ⟨_, _, [], ⟨0, fun _ _ _ _ => rfl⟩, by simpa using hd, ih⟩
  | rskip hg hw _ ih =>
    obtain ⟨e1, h1, ds, ⟨N, hN⟩, hd, hx⟩ := ih
    refine ⟨_, _, _ :: ds, ⟨N, fun fu d h1 h2 => ?_⟩, by simpa using hd, hx⟩
    rw [runRec_skip hg hw, hN fu d h1 h2]
  | reff hg hw hp hf _ ih =>
    obtain ⟨e1, h1, ds, ⟨N, hN⟩, hd, hx⟩ := ih
    refine ⟨_, _, _ :: ds, ⟨N, fun fu d h1 h2 => ?_⟩, by simpa using hd, hx⟩
    rw [runRec_eff hg hw hp hf, hN fu d h1 h2]
  | rcall hg hw ho hc hx hf _ ih =>
    obtain ⟨e1, h1, ds, ⟨N, hN⟩, hd, hx'⟩ := ih
    obtain ⟨M, hM⟩ := hf
    refine ⟨_, _, _ :: ds, ⟨max N M, fun fu d h1 h2 => ?_⟩, by simpa using hd, hx'⟩
    rw [runRec_call hg hw ho hc hx, hM fu d (by omega) (by omega)]
    simp only
    rw [hN fu d (by omega) (by omega)]
end
end Go.AM
end
section
/- What operations do, laid out for rewriting: facts of types ahead, cells as lists. No condition but those that each rule names. -/
namespace Go.AM
variable {P : Program} {ng : Nat} {sp : Special} {Q : AExit → Env → Heap → Prop}

/- ## Temporaries -/
theorem at_put (e : Env) (d t : Nat) (v : Value) : Env.at (Env.put e (some d) v) t = bif t == d then v else Env.at e t := by
  show Option.rec (motive := fun _ => Value) topV (fun v => v) ((e.set d v).get t) = _
  rw [Trie.get_set]
  by_cases h : t = d
  · rw [if_pos h, h, beq_self_eq_true]; rfl
  · rw [if_neg h, beq_false_of_ne h]; rfl
theorem put_none (e : Env) (v : Value) : Env.put e none v = e := rfl
theorem at_args (l : List Value) (t : Nat) : Env.at (storeL .leaf 0 l) t = (l[t]?).getD topV := by
  show Option.rec (motive := fun _ => Value) topV (fun v => v) ((storeL .leaf 0 l).get t) = _
  rw [get_storeL]
  have h0 : (0 ≤ t ∧ t < 0 + l.length) = (t < l.length) := by simp
  by_cases h : t < l.length
  · rw [if_pos (h0 ▸ h), Nat.sub_zero, List.getElem?_eq_getElem h]; rfl
  · rw [if_neg (h0 ▸ h), Trie.get_leaf, List.getElem?_eq_none (Nat.le_of_not_lt h)]; rfl
theorem eval_tmp (e : Env) (t : Tmp) : Env.eval e (.tmp t) = e.at t := rfl
theorem eval_const (e : Env) (v : Value) : Env.eval e (.const v) = v := rfl
theorem eval_global (e : Env) (g : Nat) : Env.eval e (.global g) = .pointer (some ⟨g, 0, none⟩) := rfl
theorem eval_func (e : Env) (f : FuncId) : Env.eval e (.func f) = .func (.func f) #[] #[] := rfl

/- ## Facts of types -/
def tyA (P : Program) (t : TypeId) : Option Bool := (P.underlying t).map fun d => aggB (some d)
def fldOf (P : Program) (s : TypeId) (f : Nat) : Option (Nat × Option Bool × Nat) := match P.underlying s with
  | some (.struct fields) => match fields.toList[f]? with
    | some f => (sizeOf? P f.type).map fun n => (f.offset, tyA P f.type, n)
    | none => none
  | _ => none
def arrOf (P : Program) (t : TypeId) : Option (Nat × Option Bool × Nat) := match P.underlying t with
  | some (.array n e) => (sizeOf? P e).map fun s => (n, tyA P e, s)
  | _ => none
def sarrOf (P : Program) (t : TypeId) : Option (Nat × Nat) := match P.underlying t with
  | some (.array n e) => (sizeOf? P e).map fun s => (n, s)
  | some (.pointer a) => match P.underlying a with
    | some (.array n e) => (sizeOf? P e).map fun s => (n, s)
    | _ => none
  | _ => none
def slcOf (P : Program) (t : TypeId) : Option Nat := match P.underlying t with
  | some (.slice e) => sizeOf? P e
  | _ => none
def intK (P : Program) (t : TypeId) : Option IntKind := match P.underlying t with
  | some (.int k) => some k
  | _ => none
def tyTag (P : Program) (t : TypeId) : Nat := match P.underlying t with
  | some .bool => 1
  | some (.pointer _) => 2
  | some .string => 3
  | some (.slice e) => match P.underlying e with
    | some (.int .u8) => 5
    | _ => 4
  | some (.map _ _) => 6
  | some (.func _ _ _) => 7
  | some (.interface _) => 8
  | some _ => 9
  | none => 0
def mkOf (P : Program) (t : TypeId) : Option (List Value × Nat × Nat) := match P.underlying t with
  | some (.slice e) => match P.info? e, zeroL P e with
    | some i, some z => if z.length = i.size then some (z, i.size, i.bytes + i.size + 1) else none
    | _, _ => none
  | _ => none
def opR (x : Option Value) : Option Eff := match x with
  | some v => ret v
  | none => none
theorem opR_some (v : Value) : opR (some v) = ret v := rfl
/- ## Memory -/
noncomputable def ldX (a : Option Bool) (s : Option Nat) (off : Nat) (x : Option Blk) : Option Eff := match x with
  | some (.cells xs n _) => match a with
    | none => none
    | some true => match s with
      | some s => cond (Nat.ble (off + s) n) (ret (.agg (loadL xs off s).toArray)) none
      | none => none
    | some false => cond (Nat.blt off n) (opR (xs.get off)) none
  | _ => none
theorem effLoad_ptr (t : TypeId) (b off : Nat) (g : Nat → Option Blk) : effLoad P t (.pointer (some ⟨b, off, none⟩)) g = ldX (tyA P t) (sizeOf? P t) off (g b) := by
  unfold effLoad ldX tyA sizeOf?
  simp only
  cases g b with
  | none => rfl
  | some x =>
    cases x <;> first | rfl | skip
    simp only
    cases P.underlying t with
    | none => rfl
    | some d =>
      simp only [Option.map_some]
      cases aggB (some d) with
      | true => simp only [cond_true]; cases P.info? t <;> rfl
      | false => simp only [cond_false]; unfold opR; rfl
theorem ldX_one (s : Option Nat) (off : Nat) (l : List Value) (k : Kind) : ldX (some false) s off (some (cellsB l k)) = opR l[off]? := by
  unfold ldX cellsB
  simp only [get_ofList]
  by_cases h : off < l.length
  · rw [show Nat.blt off l.length = true from by simpa [Nat.blt_eq] using h, cond_true]
  · rw [show Nat.blt off l.length = false from by rw [← Bool.not_eq_true, Nat.blt_eq]; exact h, cond_false, List.getElem?_eq_none (by omega)]; rfl
theorem ldX_agg (s off : Nat) (l : List Value) (k : Kind) : ldX (some true) (some s) off (some (cellsB l k)) = if off + s ≤ l.length then ret (.agg ((l.drop off).take s).toArray) else none := by
  unfold ldX cellsB
  simp only
  by_cases h : off + s ≤ l.length
  · rw [show Nat.ble (off + s) l.length = true from by simpa [Nat.ble_eq] using h, cond_true, if_pos h, loadL_ofList _ _ _ h]
  · rw [show Nat.ble (off + s) l.length = false from by rw [← Bool.not_eq_true, Nat.ble_eq]; exact h, cond_false, if_neg h]
noncomputable def stX (b off : Nat) (vs : Option (List Value)) (s : Option Nat) (x : Option Blk) : Option Eff := match x with
  | some (.cells xs n k) => match k with
    | .ro => none
    | k => match s, vs with
      | some s, some vs => cond (Nat.beq vs.length s) (cond (Nat.ble (off + s) n) (some ⟨undef, [(b, .cells (storeL xs off vs) n k)], []⟩) none) none
      | _, _ => none
  | _ => none
theorem effStore_ptr (t : TypeId) (b off : Nat) (v : Value) (g : Nat → Option Blk) : effStore P t (.pointer (some ⟨b, off, none⟩)) v g = stX b off (cellsOf v) (sizeOf? P t) (g b) := by
  unfold effStore stX sizeOf?
  simp only
  cases g b with
  | none => rfl
  | some x =>
    cases x with
    | cells xs n k => cases k <;> simp only <;> cases P.info? t <;> cases cellsOf v <;> rfl
    | _ => rfl
theorem stX_eq (b off : Nat) (vs : List Value) (s : Nat) (l : List Value) (k : Kind) : stX b off (some vs) (some s) (some (cellsB l k)) = if k ≠ .ro ∧ vs.length = s ∧ off + s ≤ l.length then some ⟨undef, [(b, cellsB (overL l off vs) k)], []⟩ else none := by
  unfold stX cellsB
  by_cases h : k ≠ .ro ∧ vs.length = s ∧ off + s ≤ l.length
  · rw [if_pos h]
    obtain ⟨h1, h2, h3⟩ := h
    subst h2
    cases k <;> simp only <;> first | exact absurd rfl h1 | rw [show Nat.beq vs.length vs.length = true from Nat.beq_refl _, show Nat.ble (off + vs.length) l.length = true from by simpa [Nat.ble_eq] using h3, storeL_ofList _ _ _ h3, length_overC h3]; rfl
  · rw [if_neg h]
    cases k <;> simp only
    all_goals
      by_cases h2 : vs.length = s
      · subst h2
        rw [show Nat.beq vs.length vs.length = true from Nat.beq_refl _, show Nat.ble (off + vs.length) l.length = false from by rw [← Bool.not_eq_true, Nat.ble_eq]; exact fun h3 => h ⟨by simp, rfl, h3⟩]; rfl
      · rw [show Nat.beq vs.length s = false from by rw [← Bool.not_eq_true, Nat.beq_eq]; exact h2]; rfl
theorem stX_one (b off : Nat) (v : Value) (l : List Value) (k : Kind) (hk : k ≠ .ro) : stX b off (some [v]) (some 1) (some (cellsB l k)) = if off < l.length then some ⟨undef, [(b, cellsB (l.set off v) k)], []⟩ else none := by
  rw [stX_eq]
  by_cases h : off < l.length
  · rw [if_pos ⟨hk, rfl, h⟩, if_pos h, overL_one v h]
  · rw [if_neg (fun hh => h hh.2.2), if_neg h]
def fldX (x : Option (Nat × Option Bool × Nat)) (a : Addr) : Option Eff := match x with
  | some (o, _, n) => if n = 0 then none else ret (.pointer (some (a.add o)))
  | none => none
theorem effField_ptr (s : TypeId) (a : Addr) (f : Nat) : effField P s (.pointer (some a)) f = fldX (fldOf P s f) a := by
  unfold effField fldX fldOf sizeOf?
  cases P.underlying s with
  | none => rfl
  | some d =>
    cases d <;> first | rfl | skip
    rename_i fields
    simp only
    cases fields.toList[f]? with
    | none => rfl
    | some fd =>
      simp only
      cases P.info? fd.type with
      | none => rfl
      | some i =>
        simp only [Option.map_some]
        by_cases h : i.size = 0
        · rw [if_pos h, show Nat.beq i.size 0 = true from by rw [h]; rfl]; rfl
        · rw [if_neg h, show Nat.beq i.size 0 = false from by rw [← Bool.not_eq_true, Nat.beq_eq]; exact h]; rfl
theorem fldX_some (o n : Nat) (g : Option Bool) (a : Addr) : fldX (some (o, g, n)) a = if n = 0 then none else ret (.pointer (some (a.add o))) := rfl
theorem addr_add (b off n : Nat) : (⟨b, off, none⟩ : Addr).add n = ⟨b, off + n, none⟩ := add_at b off n
theorem idx_int (k : IntKind) (i : Int) (n : Nat) : idx (.int k i) n = if 0 ≤ i ∧ i < n then some i.toNat else none := by
  unfold idx
  cases i with
  | ofNat i =>
    simp only
    by_cases h : i < n
    · rw [show Nat.blt i n = true from by simpa [Nat.blt_eq] using h, if_pos ⟨by simp, by simpa using h⟩]; rfl
    · rw [show Nat.blt i n = false from by rw [← Bool.not_eq_true, Nat.blt_eq]; exact h, if_neg (by simpa using h)]; rfl
  | negSucc i => simp only; rw [if_neg (by intro h; have := h.1; simp at this)]
def ixA (x : Option (Nat × Option Bool × Nat)) (ix : Value) (a : Addr) : Option Eff := match x with
  | some (n, _, s) => match idx ix n with
    | some i => ret (.pointer (some (a.add (i * s))))
    | none => none
  | none => none
theorem effIdx_arr (t : TypeId) (a : Addr) (ix : Value) : effIdx P t (.pointer (some a)) ix = ixA (arrOf P t) ix a := by
  unfold effIdx ixA arrOf
  cases P.underlying t with
  | none => rfl
  | some d =>
    cases d <;> first | rfl | skip
    rename_i n e
    simp only
    cases sizeOf? P e <;> simp only [Option.map_some, Option.map_none]
    · cases idx ix n <;> rfl
    · cases idx ix n <;> rfl
theorem ixA_some (n s : Nat) (g : Option Bool) (k : IntKind) (i : Int) (a : Addr) : ixA (some (n, g, s)) (.int k i) a = if 0 ≤ i ∧ i < n then ret (.pointer (some (a.add (i.toNat * s)))) else none := by
  unfold ixA
  simp only [idx_int]
  by_cases h : 0 ≤ i ∧ i < n
  · rw [if_pos h, if_pos h]
  · rw [if_neg h, if_neg h]
def ixS (x : Option Nat) (ix : Value) (len : Nat) (a : Addr) : Option Eff := match x with
  | some s => match idx ix len with
    | some i => ret (.pointer (some (a.add (i * s))))
    | none => none
  | none => none
theorem effIdx_slc (t : TypeId) (a : Addr) (len cap : Nat) (ix : Value) : effIdx P t (.slice (some a) len cap) ix = ixS (slcOf P t) ix len a := by
  unfold effIdx ixS slcOf
  cases P.underlying t with
  | none => rfl
  | some d =>
    cases d <;> first | rfl | skip
    rename_i e
    simp only
    cases sizeOf? P e <;> simp only
    · cases idx ix len <;> rfl
    · cases idx ix len <;> rfl
theorem ixS_some (s : Nat) (k : IntKind) (i : Int) (len : Nat) (a : Addr) : ixS (some s) (.int k i) len a = if 0 ≤ i ∧ i < len then ret (.pointer (some (a.add (i.toNat * s)))) else none := by
  unfold ixS
  simp only [idx_int]
  by_cases h : 0 ≤ i ∧ i < len
  · rw [if_pos h, if_pos h]
  · rw [if_neg h, if_neg h]
def fvX (x : Option (Nat × Option Bool × Nat)) (l : List Value) : Option Eff := match x with
  | some (off, some false, _) => opR l[off]?
  | some (off, some true, s) => if off + s ≤ l.length then ret (.agg ((l.drop off).take s).toArray) else none
  | _ => none
theorem aPart_eq (t : TypeId) (l : List Value) (off : Nat) : (aPart P t l off).bind ret = match tyA P t with
    | none => none
    | some false => opR l[off]?
    | some true => match sizeOf? P t with
      | some s => if off + s ≤ l.length then ret (.agg ((l.drop off).take s).toArray) else none
      | none => none := by
  unfold aPart tyA
  cases P.underlying t with
  | none => rfl
  | some d =>
    simp only [Option.map_some]
    cases aggB (some d) with
    | true =>
      simp only [if_true]
      cases sizeOf? P t with
      | none => rfl
      | some s => simp only; split <;> rfl
    | false => simp only [Bool.false_eq_true, if_false]; cases l[off]? <;> rfl
theorem effFieldV_eq (t : TypeId) (cs : Array Value) (f : Nat) (hs : (fldOf P t f).isSome = true) : effFieldV P t (.agg cs) f = fvX (fldOf P t f) cs.toList := by
  unfold effFieldV
  unfold fldOf at hs ⊢
  cases hu : P.underlying t with
  | none => rw [hu] at hs; simp at hs
  | some d =>
    rw [hu] at hs
    cases d <;> first | (simp at hs; done) | skip
    rename_i fields
    simp only at hs ⊢
    cases hf : fields.toList[f]? with
    | none => rw [hf] at hs; simp at hs
    | some fd =>
      rw [hf] at hs
      simp only at hs ⊢
      rw [aPart_eq]
      cases hz : sizeOf? P fd.type with
      | none => rw [hz] at hs; simp at hs
      | some n =>
        simp only [Option.map_some]
        cases tyA P fd.type with
        | none => rfl
        | some g => cases g <;> rfl
theorem fvX_one (off s : Nat) (l : List Value) : fvX (some (off, some false, s)) l = opR l[off]? := rfl
theorem fvX_agg (off s : Nat) (l : List Value) : fvX (some (off, some true, s)) l = if off + s ≤ l.length then ret (.agg ((l.drop off).take s).toArray) else none := rfl
theorem effIndex_str (t : TypeId) (s : ByteArray) (ix : Value) (ht : tyTag P t = 3) : effIndex P t (.string s) ix = match idx ix s.size with
    | some i => opR ((s.data.toList[i]?).map fun b => .int .u8 b.toNat)
    | none => none := by
  unfold effIndex
  unfold tyTag at ht
  cases hu : P.underlying t with
  | none => rw [hu] at ht; simp at ht
  | some d =>
    rw [hu] at ht
    cases d <;> first | (simp at ht; done) | skip
    · simp only
      cases idx ix s.size with
      | none => rfl
      | some i => simp only; cases s.data.toList[i]? <;> rfl
    · simp only at ht; split at ht <;> simp at ht

/- ## Numbers -/
theorem eqI_dec (a b : Int) : eqI a b = decide (a = b) := by
  rw [eqI_eq]
  rfl
theorem effBin_int (op : BinOp) (hs : opN op ≠ 8 ∧ opN op ≠ 9) (t : TypeId) (x y : Operand) (k : IntKind) (a b : Int) (g : Nat → Option Blk) : effBin P op t x y (.int k a) (.int k b) g = (intOp op k a b).bind ret := by
  unfold effBin
  have h : Nat.beq (kindN k) (kindN k) = true := Nat.beq_refl _
  cases op <;> first | (simp only [h, cond_true]; done) | (simp [opN] at hs; done)
theorem effBin_add (t : TypeId) (x y : Operand) (k : IntKind) (a b : Int) (g : Nat → Option Blk) : effBin P .add t x y (.int k a) (.int k b) g = ret (.int k (wrapF k (a + b))) := effBin_int _ (by decide) t x y k a b g
theorem effBin_sub (t : TypeId) (x y : Operand) (k : IntKind) (a b : Int) (g : Nat → Option Blk) : effBin P .sub t x y (.int k a) (.int k b) g = ret (.int k (wrapF k (a - b))) := effBin_int _ (by decide) t x y k a b g
theorem effBin_mul (t : TypeId) (x y : Operand) (k : IntKind) (a b : Int) (g : Nat → Option Blk) : effBin P .mul t x y (.int k a) (.int k b) g = ret (.int k (wrapF k (a * b))) := effBin_int _ (by decide) t x y k a b g
theorem effBin_quo (t : TypeId) (x y : Operand) (k : IntKind) (a b : Int) (g : Nat → Option Blk) : effBin P .quo t x y (.int k a) (.int k b) g = if b = 0 then none else ret (.int k (wrapF k (a.tdiv b))) := by
  rw [effBin_int _ (by decide)]
  unfold intOp
  simp only [eqI_dec]
  by_cases h : b = 0
  · subst h; rfl
  · rw [if_neg h, decide_eq_false h]; rfl
theorem effBin_rem (t : TypeId) (x y : Operand) (k : IntKind) (a b : Int) (g : Nat → Option Blk) : effBin P .rem t x y (.int k a) (.int k b) g = if b = 0 then none else ret (.int k (a.tmod b)) := by
  rw [effBin_int _ (by decide)]
  unfold intOp
  simp only [eqI_dec]
  by_cases h : b = 0
  · subst h; rfl
  · rw [if_neg h, decide_eq_false h]; rfl
theorem effBin_and (t : TypeId) (x y : Operand) (k : IntKind) (a b : Int) (g : Nat → Option Blk) : effBin P .and t x y (.int k a) (.int k b) g = ret (.int k (k.wrap (BitVec.ofInt k.bits a &&& BitVec.ofInt k.bits b).toNat)) := effBin_int _ (by decide) t x y k a b g
theorem effBin_or (t : TypeId) (x y : Operand) (k : IntKind) (a b : Int) (g : Nat → Option Blk) : effBin P .or t x y (.int k a) (.int k b) g = ret (.int k (k.wrap (BitVec.ofInt k.bits a ||| BitVec.ofInt k.bits b).toNat)) := effBin_int _ (by decide) t x y k a b g
theorem effBin_andNot (t : TypeId) (x y : Operand) (k : IntKind) (a b : Int) (g : Nat → Option Blk) : effBin P .andNot t x y (.int k a) (.int k b) g = ret (.int k (k.wrap (BitVec.ofInt k.bits a &&& ~~~BitVec.ofInt k.bits b).toNat)) := effBin_int _ (by decide) t x y k a b g
theorem effBin_eql (t : TypeId) (x y : Operand) (k : IntKind) (a b : Int) (g : Nat → Option Blk) : effBin P .eql t x y (.int k a) (.int k b) g = ret (.bool (decide (a = b))) := by rw [effBin_int _ (by decide)]; unfold intOp; simp only [eqI_dec]; rfl
theorem effBin_neq (t : TypeId) (x y : Operand) (k : IntKind) (a b : Int) (g : Nat → Option Blk) : effBin P .neq t x y (.int k a) (.int k b) g = ret (.bool (!decide (a = b))) := by rw [effBin_int _ (by decide)]; unfold intOp; simp only [eqI_dec]; rfl
theorem effBin_lss (t : TypeId) (x y : Operand) (k : IntKind) (a b : Int) (g : Nat → Option Blk) : effBin P .lss t x y (.int k a) (.int k b) g = ret (.bool (decide (a < b))) := by rw [effBin_int _ (by decide)]; unfold intOp; simp only [ltI_eq]; rfl
theorem effBin_leq (t : TypeId) (x y : Operand) (k : IntKind) (a b : Int) (g : Nat → Option Blk) : effBin P .leq t x y (.int k a) (.int k b) g = ret (.bool (decide (a ≤ b))) := by
  rw [effBin_int _ (by decide)]; unfold intOp; simp only [ltI_eq]
  rw [show (!decide (b < a)) = decide (a ≤ b) from by by_cases h : b < a <;> simp [h] <;> omega]; rfl
theorem effBin_gtr (t : TypeId) (x y : Operand) (k : IntKind) (a b : Int) (g : Nat → Option Blk) : effBin P .gtr t x y (.int k a) (.int k b) g = ret (.bool (decide (b < a))) := by rw [effBin_int _ (by decide)]; unfold intOp; simp only [ltI_eq]; rfl
theorem effBin_geq (t : TypeId) (x y : Operand) (k : IntKind) (a b : Int) (g : Nat → Option Blk) : effBin P .geq t x y (.int k a) (.int k b) g = ret (.bool (decide (b ≤ a))) := by
  rw [effBin_int _ (by decide)]; unfold intOp; simp only [ltI_eq]
  rw [show (!decide (a < b)) = decide (b ≤ a) from by by_cases h : a < b <;> simp [h] <;> omega]; rfl
theorem effBin_shl (t : TypeId) (x y : Operand) (k k' : IntKind) (a b : Int) (g : Nat → Option Blk) : effBin P .shl t x y (.int k a) (.int k' b) g = if 0 ≤ b then ret (.int k (wrapF k (a * 2 ^ (min b.toNat k.bits)))) else none := by
  show (shiftOp .shl k a b).bind ret = _
  unfold shiftOp
  cases b with
  | ofNat b => simp only; rw [if_pos (by simp)]; rfl
  | negSucc b => simp only; rw [if_neg (by simp)]; rfl
theorem effBin_shr (t : TypeId) (x y : Operand) (k k' : IntKind) (a b : Int) (g : Nat → Option Blk) : effBin P .shr t x y (.int k a) (.int k' b) g = if 0 ≤ b then ret (.int k (a.fdiv (2 ^ (min b.toNat k.bits)))) else none := by
  show (shiftOp .shr k a b).bind ret = _
  unfold shiftOp
  cases b with
  | ofNat b => simp only; rw [if_pos (by simp)]; rfl
  | negSucc b => simp only; rw [if_neg (by simp)]; rfl
theorem tag_eq {t : TypeId} {n : Nat} (h : tyTag P t = n) : (n = 1 → P.underlying t = some .bool) ∧ (n = 2 → ∃ e, P.underlying t = some (.pointer e)) ∧ (n = 3 → P.underlying t = some .string) ∧ (n = 4 ∨ n = 5 → ∃ e, P.underlying t = some (.slice e))
    ∧ (n = 6 → ∃ a b, P.underlying t = some (.map a b)) ∧ (n = 7 → ∃ a b c, P.underlying t = some (.func a b c)) ∧ (n = 8 → ∃ a, P.underlying t = some (.interface a)) ∧ (n = 5 → ∃ e, P.underlying t = some (.slice e) ∧ P.underlying e = some (.int .u8)) := by
  subst h
  unfold tyTag
  cases hu : P.underlying t with
  | none => simp
  | some d =>
    cases d <;> simp
    rename_i e
    split
    · rename_i h; simp [h]
    · simp
theorem effBin_eql_bool (t : TypeId) (x y : Operand) (a b : Bool) (g : Nat → Option Blk) (ht : tyTag P t = 1) : effBin P .eql t x y (.bool a) (.bool b) g = ret (.bool (a == b)) := by
  show (eqlV P t (.bool a) (.bool b) g).bind _ = _
  unfold eqlV
  rw [(tag_eq ht).1 rfl]; rfl
theorem effBin_neq_bool (t : TypeId) (x y : Operand) (a b : Bool) (g : Nat → Option Blk) (ht : tyTag P t = 1) : effBin P .neq t x y (.bool a) (.bool b) g = ret (.bool !(a == b)) := by
  show (eqlV P t (.bool a) (.bool b) g).bind _ = _
  unfold eqlV
  rw [(tag_eq ht).1 rfl]; rfl
theorem effBin_ptr (t : TypeId) (x y : Operand) (a : Option Addr) (g : Nat → Option Blk) (ht : tyTag P t = 2) : effBin P .eql t x y (.pointer a) (.pointer none) g = ret (.bool a.isNone) ∧ effBin P .neq t x y (.pointer a) (.pointer none) g = ret (.bool !a.isNone) ∧
    effBin P .eql t x y (.pointer none) (.pointer a) g = ret (.bool a.isNone) ∧ effBin P .neq t x y (.pointer none) (.pointer a) g = ret (.bool !a.isNone) := by
  obtain ⟨e, he⟩ := (tag_eq ht).2.1 rfl
  refine ⟨?_, ?_, ?_, ?_⟩ <;> (show (eqlV P t _ _ g).bind _ = _) <;> unfold eqlV <;> rw [he] <;> cases a <;> rfl
theorem effBin_slc (t : TypeId) (x y : Operand) (a : Option Addr) (l c : Nat) (g : Nat → Option Blk) (ht : tyTag P t = 4 ∨ tyTag P t = 5) : effBin P .eql t x y (.slice a l c) (.slice none 0 0) g = ret (.bool a.isNone) ∧ effBin P .neq t x y (.slice a l c) (.slice none 0 0) g = ret (.bool !a.isNone) := by
  obtain ⟨e, he⟩ : ∃ e, P.underlying t = some (.slice e) := by
    rcases ht with ht | ht
    · exact (tag_eq ht).2.2.2.1 (.inl rfl)
    · exact (tag_eq ht).2.2.2.1 (.inr rfl)
  refine ⟨?_, ?_⟩ <;> (show (eqlV P t _ _ g).bind _ = _) <;> unfold eqlV <;> rw [he] <;> cases a <;> rfl
theorem effBin_ifc (t : TypeId) (x y : Operand) (a : TypeId) (v : Value) (g : Nat → Option Blk) (ht : tyTag P t = 8) : effBin P .eql t x y (.iface a v) .nilIface g = ret (.bool false) ∧ effBin P .neq t x y (.iface a v) .nilIface g = ret (.bool true) := by
  obtain ⟨e, he⟩ := (tag_eq ht).2.2.2.2.2.2.1 rfl
  refine ⟨?_, ?_⟩ <;> (show (eqlV P t _ _ g).bind _ = _) <;> unfold eqlV <;> rw [he] <;> rfl
theorem effBin_str (op : BinOp) (t : TypeId) (x y : Operand) (a b : ByteArray) (g : Nat → Option Blk) : effBin P op t x y (.string a) (.string b) g = (strOp op a b).bind ret := by unfold effBin; rfl
theorem effUn_not (b : Bool) : effUn .not (.bool b) = ret (.bool !b) := rfl
theorem wrapI {n : Int} (h1 : -9223372036854775808 ≤ n) (h2 : n < 9223372036854775808) : wrapF .i64 n = n := by
  rw [wrapF_eq]
  unfold IntKind.wrap IntKind.signed IntKind.bits
  simp only [Bool.true_and, decide_eq_true_eq]
  split <;> omega
theorem wrapU {n : Int} (h1 : 0 ≤ n) (h2 : n < 18446744073709551616) : wrapF .u64 n = n := by
  rw [wrapF_eq]
  unfold IntKind.wrap IntKind.signed IntKind.bits
  simp only [Bool.false_and, Bool.false_eq_true, if_false]
  omega
end Go.AM
end
section
/- What operations do, laid out for rewriting: new blocks, slices, builtins, maps; the steps of the small machine as equivalences. -/
namespace Go.AM
variable {P : Program} {ng : Nat} {sp : Special} {Q : AExit → Env → Heap → Prop}

/- ## New blocks -/
noncomputable def alX (z : Option (List Value)) (nx : Nat) : Option Eff := match z with
  | some z => some ⟨ptr nx 0, [], [cellsB z .exact]⟩
  | none => none
noncomputable def alY (b : Bool) (t : TypeId) (z : Option (List Value)) (nx : Nat) : Option Eff := match z with
  | some z => some ⟨ptr nx 0, [], [cellsB z (cond b (.bld t) .exact)]⟩
  | none => none
def bldT (P : Program) (t : TypeId) : Bool := match zeroL P t with
  | some z => bldL z
  | none => false
theorem effAlloc_eq (t : TypeId) (nx : Nat) : effAlloc P t nx = alY (bldT P t) t (zeroL P t) nx := by
  unfold effAlloc alY bldT
  cases zeroL P t with
  | none => rfl
  | some z => rfl
theorem alY_false (t : TypeId) (z : Option (List Value)) (nx : Nat) : alY false t z nx = alX z nx := rfl
theorem alX_some (z : List Value) (nx : Nat) : alX (some z) nx = some ⟨.pointer (some ⟨nx, 0, none⟩), [], [cellsB z .exact]⟩ := rfl
theorem cellsOf_bool (b : Bool) : cellsOf (.bool b) = some [.bool b] := rfl
theorem cellsOf_int (k : IntKind) (n : Int) : cellsOf (.int k n) = some [.int k n] := rfl
theorem cellsOf_string (s : ByteArray) : cellsOf (.string s) = some [.string s] := rfl
theorem cellsOf_pointer (a : Option Addr) : cellsOf (.pointer a) = some [.pointer a] := rfl
theorem cellsOf_slice (a : Option Addr) (l c : Nat) : cellsOf (.slice a l c) = some [.slice a l c] := rfl
theorem cellsOf_map (r : Option Nat) : cellsOf (.map r) = some [.map r] := rfl
theorem cellsOf_func (f : Fn) (a b : Array Value) : cellsOf (.func f a b) = some [.func f a b] := rfl
theorem cellsOf_nilFunc : cellsOf .nilFunc = some [.nilFunc] := rfl
theorem cellsOf_iface (t : TypeId) (v : Value) : cellsOf (.iface t v) = some [.iface t v] := rfl
theorem cellsOf_nilIface : cellsOf .nilIface = some [.nilIface] := rfl
theorem cellsOf_agg (c : Array Value) : cellsOf (.agg c) = some c.toList := rfl
noncomputable def mkX (x : Option (List Value × Nat × Nat)) (l c : Int) (nx : Nat) : Option Eff := match x with
  | some (z, _, mb) => if 0 ≤ l ∧ l ≤ c ∧ c.toNat * mb ≤ 2 ^ 40 then some ⟨.slice (some ⟨nx, 0, none⟩) l.toNat c.toNat, [], [mkRow z c.toNat]⟩ else none
  | none => none
theorem effMakeSlice_eq (t : TypeId) (k k' : IntKind) (l c : Int) (nx : Nat) : effMakeSlice P t (.int k l) (.int k' c) nx = mkX (mkOf P t) l c nx := by
  unfold effMakeSlice mkX mkOf
  cases P.underlying t with
  | none => rfl
  | some d =>
    cases d <;> first | rfl | skip
    rename_i e
    simp only
    cases l with
    | negSucc l =>
      simp only
      cases P.info? e <;> cases zeroL P e <;> simp only
      split
      · rename_i h; split at h <;> simp at h; rw [if_neg (by simp)]
      · rfl
    | ofNat l =>
      cases c with
      | negSucc c =>
        simp only
        cases P.info? e <;> cases zeroL P e <;> simp only
        split
        · rename_i h; split at h <;> simp at h; rw [if_neg (by simp; omega)]
        · rfl
      | ofNat c =>
        simp only
        cases P.info? e with
        | none => rfl
        | some i =>
          cases zeroL P e with
          | none => rfl
          | some z =>
            simp only
            by_cases h1 : z.length = i.size
            · rw [if_pos h1]
              simp only
              by_cases h2 : l ≤ c ∧ c * (i.bytes + i.size + 1) ≤ 2 ^ 40
              · rw [if_pos ⟨by simp, by simpa using h2.1, by simpa using h2.2⟩]
                rw [show (Nat.ble l c && Nat.ble (c * (i.bytes + i.size + 1)) (2 ^ 40) && Nat.beq z.length i.size) = true from by
                  rw [Bool.and_eq_true, Bool.and_eq_true]; exact ⟨⟨by simpa [Nat.ble_eq] using h2.1, by simpa [Nat.ble_eq] using h2.2⟩, by simpa using h1⟩]
                rfl
              · rw [if_neg (fun hh => h2 ⟨by simpa using hh.2.1, by simpa using hh.2.2⟩)]
                rw [show (Nat.ble l c && Nat.ble (c * (i.bytes + i.size + 1)) (2 ^ 40) && Nat.beq z.length i.size) = false from by
                  rw [← Bool.not_eq_true, Bool.and_eq_true, Bool.and_eq_true]; exact fun hh => h2 ⟨by simpa [Nat.ble_eq] using hh.1.1, by simpa [Nat.ble_eq] using hh.1.2⟩]
                rfl
            · rw [if_neg h1]
              rw [show (Nat.ble l c && Nat.ble (c * (i.bytes + i.size + 1)) (2 ^ 40) && Nat.beq z.length i.size) = false from by
                rw [← Bool.not_eq_true, Bool.and_eq_true]; exact fun hh => h1 (by simpa using hh.2)]
              rfl
theorem mkX_some (z : List Value) (s mb : Nat) (l c : Int) (nx : Nat) : mkX (some (z, s, mb)) l c nx = if 0 ≤ l ∧ l ≤ c ∧ c.toNat * mb ≤ 2 ^ 40 then some ⟨.slice (some ⟨nx, 0, none⟩) l.toNat c.toNat, [], [mkRow z c.toNat]⟩ else none := rfl

/- ## Slices -/
theorem bnd_none (d n : Nat) : bnd none d n = some d := rfl
theorem bnd_int (k : IntKind) (i : Int) (d n : Nat) : bnd (some (.int k i)) d n = if 0 ≤ i ∧ i ≤ n then some i.toNat else none := by
  unfold bnd
  cases i with
  | ofNat i =>
    simp only
    by_cases h : i ≤ n
    · rw [show Nat.ble i n = true from by simpa [Nat.ble_eq] using h, if_pos ⟨by simp, by simpa using h⟩]; rfl
    · rw [show Nat.ble i n = false from by rw [← Bool.not_eq_true, Nat.ble_eq]; exact h, if_neg (by simpa using h)]; rfl
  | negSucc i => simp only; rw [if_neg (by intro h; have := h.1; simp at this)]
noncomputable def slP (x : Option (Nat × Nat)) (a : Addr) (lo hi mx : Option Value) : Option Eff := match x with
  | some (n, s) => match bounds n n lo hi mx with
    | some (l, h, m) => ret (.slice (some (if m = l then a else a.add (l * s))) (h - l) (m - l))
    | none => none
  | none => none
theorem effSlice_ptr (t : TypeId) (a : Addr) (lo hi mx : Option Value) (g : Nat → Option Blk) : effSlice P t (.pointer (some a)) lo hi mx g = slP (sarrOf P t) a lo hi mx := by
  unfold effSlice slP sarrOf
  cases P.underlying t with
  | none => rfl
  | some d =>
    cases d <;> first | rfl | skip
    · rename_i arr
      simp only
      cases P.underlying arr with
      | none => rfl
      | some d2 =>
        cases d2 <;> first | rfl | skip
        rename_i n e
        simp only
        cases sizeOf? P e with
        | none => simp only [Option.map_none]; cases bounds n n lo hi mx <;> rfl
        | some s => simp only [Option.map_some]; cases bounds n n lo hi mx <;> rfl
    · rename_i n e
      simp only
      cases sizeOf? P e with
      | none => simp only [Option.map_none]; cases bounds n n lo hi mx <;> rfl
      | some s => simp only [Option.map_some]; cases bounds n n lo hi mx <;> rfl
noncomputable def slS (x : Option Nat) (a : Option Addr) (len cap : Nat) (lo hi mx : Option Value) (g : Nat → Option Blk) : Option Eff := match x with
  | some s => match bounds len cap lo hi mx with
    | some (l, h, m) => match sliceAddr a l m cap s mx.isSome g with
      | some a' => ret (.slice a' (h - l) (m - l))
      | none => none
    | none => none
  | none => none
theorem effSlice_slc (t : TypeId) (a : Option Addr) (len cap : Nat) (lo hi mx : Option Value) (g : Nat → Option Blk) : effSlice P t (.slice a len cap) lo hi mx g = slS (slcOf P t) a len cap lo hi mx g := by
  unfold effSlice slS slcOf
  cases P.underlying t with
  | none => rfl
  | some d =>
    cases d <;> first | rfl | skip
    rename_i e
    simp only
    cases sizeOf? P e with
    | none => cases bounds len cap lo hi mx <;> rfl
    | some s => cases bounds len cap lo hi mx <;> rfl
theorem sliceAddr_nil (l m cap size : Nat) (mx : Bool) (g : Nat → Option Blk) : sliceAddr none l m cap size mx g = some none := rfl
theorem effSlice_str (t : TypeId) (s : ByteArray) (lo hi : Option Value) (g : Nat → Option Blk) (ht : tyTag P t = 3) : effSlice P t (.string s) lo hi none g = match bounds s.size s.size lo hi none with
    | some (l, h, _) => ret (.string (s.extract l h))
    | none => none := by
  unfold effSlice
  rw [(tag_eq ht).2.2.1 rfl]
  rfl

/- ## Builtins -/
theorem eff_len_str (ts : Array TypeId) (t : TypeId) (s : ByteArray) (g : Nat → Option Blk) (hts : ts.toList = [t]) (ht : tyTag P t = 3) : aLen P ts (.string s) g = ret (.int .i64 s.size) := by
  unfold aLen
  rw [hts]
  simp only
  rw [(tag_eq ht).2.2.1 rfl]
theorem eff_len_map (ts : Array TypeId) (t : TypeId) (r : Nat) (g : Nat → Option Blk) (hts : ts.toList = [t]) (ht : tyTag P t = 6) : aLen P ts (.map (some r)) g = match g r with
    | some (.map es _) => ret (.int .i64 es.length)
    | _ => none := by
  unfold aLen
  rw [hts]
  simp only
  obtain ⟨a, b, h⟩ := (tag_eq ht).2.2.2.2.1 rfl
  rw [h]
  rfl
theorem firstL_succ (g : Nat → Option Blk) (size n : Nat) (x : Value) : firstL g size (n + 1) x = firstS g size (n + 1) x := rfl
theorem firstL_slc (g : Nat → Option Blk) (size n b off l c : Nat) (xs : List Value) (k : Kind) (hg : g b = some (cellsB xs k)) (h : off + n * size ≤ xs.length) : firstL g size n (.slice (some ⟨b, off, none⟩) l c) = some ((xs.drop off).take (n * size)) := by
  cases n with
  | zero => rw [Nat.zero_mul]; rfl
  | succ n =>
    rw [firstL_succ]
    unfold firstS cellsB at *
    simp only [hg]
    rw [if_pos h, loadL_ofList _ _ _ h]
theorem lenV_slc (a : Option Addr) (n c : Nat) : lenV (.slice a n c) = some n := rfl
theorem lenV_str (s : ByteArray) : lenV (.string s) = some s.size := rfl

structure AppT (P : Program) (ts : Array TypeId) (z : List Value) (s mb : Nat) : Prop where
  st : ∃ st xt e i dx, ts.toList = [st, xt] ∧ P.underlying st = some (.slice e) ∧ P.underlying xt = some dx ∧ (∀ k, dx ≠ .int k) ∧ P.info? e = some i ∧ zeroL P e = some z ∧ i.size = s ∧ z.length = s ∧ i.bytes + i.size + 1 = mb ∧ s ≠ 0 ∧ notB z = true
def appT (P : Program) (ts : Array TypeId) : Option (List Value × Nat × Nat) := match ts.toList with
  | [st, xt] => match P.underlying st, P.underlying xt with
    | some (.slice e), some (.int _) => match e with | _ => none
    | some (.slice e), some _ => match P.info? e, zeroL P e with
      | some i, some z => if z.length = i.size ∧ i.size ≠ 0 ∧ notB z = true then some (z, i.size, i.bytes + i.size + 1) else none
      | _, _ => none
    | _, _ => none
  | _ => none
end Go.AM
end
section
/- The steps of the small machine as equivalences, for rewriting. Condition: none but those named. -/
namespace Go.AM
variable {P : Program} {ng : Nat} {sp : Special} {Q : AExit → Env → Heap → Prop}

/- ## Control -/
theorem run_skip {K : List Frm} {e : Env} {h : Heap} : Run P ng sp Q K (.code .skip) e h ↔ Run P ng sp Q K (.exit .normal) e h := ⟨fun h => by cases h; assumption, .skip⟩
theorem run_label {K : List Frm} {l : Nat} {e : Env} {h : Heap} : Run P ng sp Q K (.code (.label l)) e h ↔ Run P ng sp Q K (.exit .normal) e h := ⟨fun h => by cases h; assumption, .label⟩
theorem run_ret {K : List Frm} {e : Env} {h : Heap} : Run P ng sp Q K (.code .ret) e h ↔ Run P ng sp Q K (.exit .ret) e h := ⟨fun h => by cases h; assumption, .ret⟩
theorem run_goto {K : List Frm} {l : Nat} {e : Env} {h : Heap} : Run P ng sp Q K (.code (.goto l)) e h ↔ Run P ng sp Q K (.exit (.goto l)) e h := ⟨fun h => by cases h; assumption, .goto⟩
theorem run_leave {K : List Frm} {i : Nat} {e : Env} {h : Heap} : Run P ng sp Q K (.code (.exit i)) e h ↔ Run P ng sp Q K (.exit (.exit i)) e h := ⟨fun h => by cases h; assumption, .leave⟩
theorem run_seq {K : List Frm} {a b : Code} {e : Env} {h : Heap} : Run P ng sp Q K (.code (.seq a b)) e h ↔ Run P ng sp Q (.seq b :: K) (.code a) e h := ⟨fun h => by cases h; assumption, .seq⟩
theorem run_block {K : List Frm} {id : Nat} {b : Code} {e : Env} {h : Heap} : Run P ng sp Q K (.code (.block id b)) e h ↔ Run P ng sp Q (.blk id :: K) (.code b) e h := ⟨fun h => by cases h; assumption, .block⟩
theorem run_scope {K : List Frm} {b : Code} {e : Env} {h : Heap} : Run P ng sp Q K (.code (.scope b)) e h ↔ Run P ng sp Q (.scope b :: K) (.code b) e h := ⟨fun h => by cases h; assumption, .scope⟩
theorem run_region {K : List Frm} {id : Nat} {ops : Array Oper} {e : Env} {h : Heap} : Run P ng sp Q K (.code (.region id ops false)) e h ↔ Run P ng sp Q K (.ops ops.toList ops.toList) e h := ⟨fun h => by cases h; assumption, .region⟩
def RunB (P : Program) (ng : Nat) (sp : Special) (Q : AExit → Env → Heap → Prop) (K : List Frm) (a b : Code) (v : Value) (e : Env) (h : Heap) : Prop := ∃ t, v = .bool t ∧ Run P ng sp Q K (.code (bif t then a else b)) e h
theorem run_cond {K : List Frm} {x : Operand} {a b : Code} {e : Env} {h : Heap} : Run P ng sp Q K (.code (.cond x a b)) e h ↔ RunB P ng sp Q K a b (e.eval x) e h :=
  ⟨fun h => by cases h with | cond h1 h2 => exact ⟨_, h1, h2⟩, fun ⟨_, h1, h2⟩ => .cond h1 h2⟩
theorem runB_true {K : List Frm} {a b : Code} {e : Env} {h : Heap} : RunB P ng sp Q K a b (.bool true) e h ↔ Run P ng sp Q K (.code a) e h :=
  ⟨fun ⟨t, h1, h2⟩ => by cases h1; exact h2, fun h => ⟨true, rfl, h⟩⟩
theorem runB_false {K : List Frm} {a b : Code} {e : Env} {h : Heap} : RunB P ng sp Q K a b (.bool false) e h ↔ Run P ng sp Q K (.code b) e h :=
  ⟨fun ⟨t, h1, h2⟩ => by cases h1; exact h2, fun h => ⟨false, rfl, h⟩⟩
theorem exit_done {ex : AExit} {e : Env} {h : Heap} : Run P ng sp Q [] (.exit ex) e h ↔ Q ex e h := ⟨fun h => by cases h; assumption, .done⟩
theorem exit_seq_normal {K : List Frm} {b : Code} {e : Env} {h : Heap} : Run P ng sp Q (.seq b :: K) (.exit .normal) e h ↔ Run P ng sp Q K (.code b) e h :=
  ⟨fun h => by cases h with | xseq h => exact h | xseq' h1 _ => exact absurd rfl h1, .xseq⟩
theorem exit_seq_ret {K : List Frm} {b : Code} {e : Env} {h : Heap} : Run P ng sp Q (.seq b :: K) (.exit .ret) e h ↔ Run P ng sp Q K (.exit .ret) e h := ⟨fun h => by cases h; assumption, .xseq' (by simp)⟩
theorem exit_seq_exit {K : List Frm} {b : Code} {i : Nat} {e : Env} {h : Heap} : Run P ng sp Q (.seq b :: K) (.exit (.exit i)) e h ↔ Run P ng sp Q K (.exit (.exit i)) e h := ⟨fun h => by cases h; assumption, .xseq' (by simp)⟩
theorem exit_seq_goto {K : List Frm} {b : Code} {i : Nat} {e : Env} {h : Heap} : Run P ng sp Q (.seq b :: K) (.exit (.goto i)) e h ↔ Run P ng sp Q K (.exit (.goto i)) e h := ⟨fun h => by cases h; assumption, .xseq' (by simp)⟩
theorem exit_seq_pan {K : List Frm} {b : Code} {v : Value} {e : Env} {h : Heap} : Run P ng sp Q (.seq b :: K) (.exit (.pan v)) e h ↔ Run P ng sp Q K (.exit (.pan v)) e h := ⟨fun h => by cases h; assumption, .xseq' (by simp)⟩
theorem exit_blk_normal {K : List Frm} {i : Nat} {e : Env} {h : Heap} : Run P ng sp Q (.blk i :: K) (.exit .normal) e h ↔ Run P ng sp Q K (.exit .normal) e h := ⟨fun h => by cases h; assumption, .xblk' (by simp)⟩
theorem exit_blk_ret {K : List Frm} {i : Nat} {e : Env} {h : Heap} : Run P ng sp Q (.blk i :: K) (.exit .ret) e h ↔ Run P ng sp Q K (.exit .ret) e h := ⟨fun h => by cases h; assumption, .xblk' (by simp)⟩
theorem exit_blk_goto {K : List Frm} {i l : Nat} {e : Env} {h : Heap} : Run P ng sp Q (.blk i :: K) (.exit (.goto l)) e h ↔ Run P ng sp Q K (.exit (.goto l)) e h := ⟨fun h => by cases h; assumption, .xblk' (by simp)⟩
theorem exit_blk_pan {K : List Frm} {i : Nat} {v : Value} {e : Env} {h : Heap} : Run P ng sp Q (.blk i :: K) (.exit (.pan v)) e h ↔ Run P ng sp Q K (.exit (.pan v)) e h := ⟨fun h => by cases h; assumption, .xblk' (by simp)⟩
theorem exit_blk_exit {K : List Frm} {i j : Nat} {e : Env} {h : Heap} : Run P ng sp Q (.blk i :: K) (.exit (.exit j)) e h ↔ if j = i then Run P ng sp Q K (.exit .normal) e h else Run P ng sp Q K (.exit (.exit j)) e h := by
  by_cases hj : j = i
  · subst hj
    rw [if_pos rfl]
    exact ⟨fun h => by cases h with | xblk h => exact h | xblk' h1 _ => exact absurd rfl h1, .xblk⟩
  · rw [if_neg hj]
    exact ⟨fun h => by cases h with | xblk h => exact absurd rfl hj | xblk' _ h => exact h, .xblk' (by simpa using hj)⟩
theorem exit_again_normal {K : List Frm} {b : Code} {e : Env} {h : Heap} : Run P ng sp Q (.again b :: K) (.exit .normal) e h ↔ Run P ng sp Q K (.code (.loop b)) e h :=
  ⟨fun h => by cases h with | xagain h => exact h | xagain' h1 _ => exact absurd rfl h1, .xagain⟩
theorem exit_again_ret {K : List Frm} {b : Code} {e : Env} {h : Heap} : Run P ng sp Q (.again b :: K) (.exit .ret) e h ↔ Run P ng sp Q K (.exit .ret) e h := ⟨fun h => by cases h; assumption, .xagain' (by simp)⟩
theorem exit_again_exit {K : List Frm} {b : Code} {i : Nat} {e : Env} {h : Heap} : Run P ng sp Q (.again b :: K) (.exit (.exit i)) e h ↔ Run P ng sp Q K (.exit (.exit i)) e h := ⟨fun h => by cases h; assumption, .xagain' (by simp)⟩
theorem exit_again_goto {K : List Frm} {b : Code} {i : Nat} {e : Env} {h : Heap} : Run P ng sp Q (.again b :: K) (.exit (.goto i)) e h ↔ Run P ng sp Q K (.exit (.goto i)) e h := ⟨fun h => by cases h; assumption, .xagain' (by simp)⟩
theorem exit_again_pan {K : List Frm} {b : Code} {v : Value} {e : Env} {h : Heap} : Run P ng sp Q (.again b :: K) (.exit (.pan v)) e h ↔ Run P ng sp Q K (.exit (.pan v)) e h := ⟨fun h => by cases h; assumption, .xagain' (by simp)⟩
theorem exit_scope_normal {K : List Frm} {b : Code} {e : Env} {h : Heap} : Run P ng sp Q (.scope b :: K) (.exit .normal) e h ↔ Run P ng sp Q K (.exit .normal) e h := ⟨fun h => by cases h; assumption, .xscope' (by simp)⟩
theorem exit_scope_ret {K : List Frm} {b : Code} {e : Env} {h : Heap} : Run P ng sp Q (.scope b :: K) (.exit .ret) e h ↔ Run P ng sp Q K (.exit .ret) e h := ⟨fun h => by cases h; assumption, .xscope' (by simp)⟩
theorem exit_scope_exit {K : List Frm} {b : Code} {i : Nat} {e : Env} {h : Heap} : Run P ng sp Q (.scope b :: K) (.exit (.exit i)) e h ↔ Run P ng sp Q K (.exit (.exit i)) e h := ⟨fun h => by cases h; assumption, .xscope' (by simp)⟩
theorem exit_scope_pan {K : List Frm} {b : Code} {v : Value} {e : Env} {h : Heap} : Run P ng sp Q (.scope b :: K) (.exit (.pan v)) e h ↔ Run P ng sp Q K (.exit (.pan v)) e h := ⟨fun h => by cases h; assumption, .xscope' (by simp)⟩

theorem run_loop {K : List Frm} {body : Code} (hm : (mapLoopOf body).isNone = true) (I : Nat → Env → Heap → Prop)
    (step : ∀ n e h, I n e h → (∀ n' e' h', n' < n → I n' e' h' → Run P ng sp Q K (.code (.loop body)) e' h') → Run P ng sp Q (.again body :: K) (.code body) e h) :
    ∀ (n : Nat) (e : Env) (h : Heap), I n e h → Run P ng sp Q K (.code (.loop body)) e h := by
  intro n
  induction n using Nat.strongRecOn with
  | _ n ih => exact fun e h hi => .loop hm (step n e h hi fun n' e' h' hn hi' => ih n' hn e' h' hi')
/- ## Operations -/
def RunV (P : Program) (ng : Nat) (sp : Special) (Q : AExit → Env → Heap → Prop) (K : List Frm) (c : Ctl) (d : Option Tmp) (x : Option Eff) (e : Env) (h : Heap) : Prop := ∃ f, x = some f ∧ Run P ng sp Q K c (e.put d f.val) (h.apply f)
theorem runV_ret {K : List Frm} {c : Ctl} {d : Option Tmp} {v : Value} {e : Env} {h : Heap} : RunV P ng sp Q K c d (ret v) e h ↔ Run P ng sp Q K c (e.put d v) h :=
  ⟨fun ⟨f, h1, h2⟩ => by cases h1; exact h2, fun h => ⟨_, rfl, h⟩⟩
theorem runV_some {K : List Frm} {c : Ctl} {d : Option Tmp} {f : Eff} {e : Env} {h : Heap} : RunV P ng sp Q K c d (some f) e h ↔ Run P ng sp Q K c (e.put d f.val) (h.apply f) :=
  ⟨fun ⟨f, h1, h2⟩ => by cases h1; exact h2, fun h => ⟨_, rfl, h⟩⟩
def RunC (P : Program) (ng : Nat) (sp : Special) (Q : AExit → Env → Heap → Prop) (K : List Frm) (c : Ctl) (d : Option Tmp) (pa : Bool) (x : Option (FuncId × List Value)) (e : Env) (h : Heap) : Prop :=
  ∃ y, x = some y ∧ ∃ o h', EvF P ng sp y.1 y.2 h (o, h') ∧ (match o with
    | .ret v => Run P ng sp Q K c (e.put d v) h'
    | .pan v => pa = true ∧ Run P ng sp Q K (.exit (.pan v)) e h')
def AfterC (P : Program) (ng : Nat) (sp : Special) (Q : AExit → Env → Heap → Prop) (K : List Frm) (c : Ctl) (d : Option Tmp) (pa : Bool) (e : Env) (o : Out) (h' : Heap) : Prop := match o with
    | .ret v => Run P ng sp Q K c (e.put d v) h'
    | .pan v => pa = true ∧ Run P ng sp Q K (.exit (.pan v)) e h'
def WF (P : Program) (ng : Nat) (sp : Special) (f : FuncId) (args : List Value) (h : Heap) (R : Out → Heap → Prop) : Prop := ∃ o h', EvF P ng sp f args h (o, h') ∧ R o h'
theorem afterC_ret {K : List Frm} {c : Ctl} {d : Option Tmp} {pa : Bool} {e : Env} {v : Value} {h : Heap} : AfterC P ng sp Q K c d pa e (.ret v) h ↔ Run P ng sp Q K c (e.put d v) h := Iff.rfl
theorem runC_of {K : List Frm} {c : Ctl} {d : Option Tmp} {pa : Bool} {f : FuncId} {args : List Value} {e : Env} {h : Heap} (hf : WF P ng sp f args h (AfterC P ng sp Q K c d pa e)) : RunC P ng sp Q K c d pa (some (f, args)) e h := by
  obtain ⟨o, h', h1, h2⟩ := hf
  exact ⟨_, rfl, o, h', h1, h2⟩
theorem guardOk_none {all : List Oper} {e : Env} {o : Oper} (hg : o.guard = none) : guardOk all e o = true := by unfold guardOk; rw [hg]
theorem wanted_none {all : List Oper} {e : Env} {o : Oper} (hg : o.guard = none) : wantedA all e o = true := by unfold wantedA; rw [hg]
theorem plain_not_call {c : Call} (h1 : plainOp (.call c) = true) (h2 : isCallee c = true) : False := by
  obtain ⟨ce, as, ts⟩ := c
  cases ce <;> simp [plainOp, isCallee] at h1 h2
theorem run_plain {K : List Frm} {all r : List Oper} {o : Oper} {e : Env} {h : Heap} (hg : o.guard = none) (hp : plainOp o.op = true) :
    Run P ng sp Q K (.ops all (o :: r)) e h ↔ RunV P ng sp Q K (.ops all r) o.dst (eff P o.op e.eval h.get h.nx) e h := by
  constructor
  · intro hr
    cases hr with
    | oskip _ h2 _ => rw [wanted_none hg] at h2; cases h2
    | oeff _ _ _ h4 h5 => exact ⟨_, h4, h5⟩
    | ocall _ _ h3 h4 _ _ _ =>
      rw [h3] at hp
      exact (plain_not_call hp h4).elim
    | ocallp _ _ h3 h4 _ _ _ =>
      rw [h3] at hp
      exact (plain_not_call hp h4).elim
    | opanic _ _ h3 _ _ => rw [h3] at hp; simp [plainOp] at hp
  · rintro ⟨f, h1, h2⟩
    exact .oeff (guardOk_none hg) (wanted_none hg) hp h1 h2
theorem run_call {K : List Frm} {all r : List Oper} {o : Oper} {c : Call} {e : Env} {h : Heap} (hg : o.guard = none) (ho : o.op = .call c) (hc : isCallee c = true) :
    Run P ng sp Q K (.ops all (o :: r)) e h ↔ RunC P ng sp Q K (.ops all r) o.dst true (callee P c e.eval) e h := by
  constructor
  · intro hr
    cases hr with
    | oskip _ h2 _ => rw [wanted_none hg] at h2; cases h2
    | oeff _ _ h3 h4 h5 =>
      rw [ho] at h3
      exact (plain_not_call h3 hc).elim
    | ocall _ _ h3 h4 h5 h6 h7 =>
      have h3 := Op.call.inj (ho.symm.trans h3)
      subst h3
      exact ⟨_, h5, _, _, h6, h7⟩
    | ocallp _ _ h3 h4 h5 h6 h7 =>
      have h3 := Op.call.inj (ho.symm.trans h3)
      subst h3
      exact ⟨_, h5, _, _, h6, rfl, h7⟩
    | opanic _ _ h3 _ _ => rw [ho] at h3; cases h3
  · rintro ⟨y, h1, o', h', h2, h3⟩
    cases o' with
    | ret v => exact .ocall (guardOk_none hg) (wanted_none hg) ho hc h1 h2 h3
    | pan v => exact .ocallp (guardOk_none hg) (wanted_none hg) ho hc h1 h2 h3.2
theorem run_nil {K : List Frm} {all : List Oper} {e : Env} {h : Heap} : Run P ng sp Q K (.ops all []) e h ↔ Run P ng sp Q K (.exit .normal) e h := ⟨fun h => by cases h; assumption, .onil⟩
noncomputable def gval (all : List Oper) (e : Env) (j : Nat) : Value := match (all[j]?).bind (·.dst) with
  | some d => e.at d
  | none => topV
def RunG (P : Program) (ng : Nat) (sp : Special) (Q : AExit → Env → Heap → Prop) (K : List Frm) (all r : List Oper) (o : Oper) (j : Nat) (v : Value) (e : Env) (h : Heap) : Prop := v = gval all e j ∧ Run P ng sp Q K (.ops all (o :: r)) e h
theorem guard_val {all : List Oper} {e : Env} {o : Oper} {j : Nat} {want b : Bool} (hg : o.guard = some (j, want)) (hv : gval all e j = .bool b) : guardOk all e o = true ∧ wantedA all e o = decide (b = want) := by
  unfold gval at hv
  unfold guardOk wantedA
  rw [hg]
  simp only
  split at hv
  · rename_i d hd
    rw [hd]
    simp only
    rw [hv]
    simp only
    refine ⟨trivial, ?_⟩
    cases b <;> cases want <;> rfl
  · cases hv
theorem run_guard {K : List Frm} {all r : List Oper} {d : Option Tmp} {op : Op} {t : TypeId} {p : String} {af : Array Edge} {j : Nat} {want : Bool} {e : Env} {h : Heap} :
    Run P ng sp Q K (.ops all (⟨d, op, t, p, af, some (j, want)⟩ :: r)) e h ↔ RunG P ng sp Q K all r ⟨d, op, t, p, af, some (j, want)⟩ j (gval all e j) e h := ⟨fun h => ⟨rfl, h⟩, fun h => h.2⟩
theorem runG_bool {K : List Frm} {all r : List Oper} {d : Option Tmp} {op : Op} {t : TypeId} {p : String} {af : Array Edge} {j : Nat} {want b : Bool} {e : Env} {h : Heap} :
    RunG P ng sp Q K all r ⟨d, op, t, p, af, some (j, want)⟩ j (.bool b) e h ↔ .bool b = gval all e j ∧ (if b = want then Run P ng sp Q K (.ops all (⟨d, op, t, p, af, none⟩ :: r)) e h else Run P ng sp Q K (.ops all r) (e.put d undef) h) := by
  refine and_congr_right fun hv => ?_
  obtain ⟨h1, h2⟩ := @guard_val all e ⟨d, op, t, p, af, some (j, want)⟩ j want b rfl hv.symm
  have hw := @wanted_none all e ⟨d, op, t, p, af, none⟩ rfl
  have hk := @guardOk_none all e ⟨d, op, t, p, af, none⟩ rfl
  by_cases hb : b = want
  · rw [if_pos hb]
    rw [decide_eq_true hb] at h2
    constructor
    · intro hr
      cases hr with
      | oskip _ h3 _ => rw [h2] at h3; cases h3
      | oeff _ _ h3 h4 h5 => exact .oeff hk hw h3 h4 h5
      | ocall _ _ h3 h4 h5 h6 h7 => exact .ocall hk hw h3 h4 h5 h6 h7
      | ocallp _ _ h3 h4 h5 h6 h7 => exact .ocallp hk hw h3 h4 h5 h6 h7
      | opanic _ _ h3 h4 h5 => exact .opanic hk hw h3 h4 h5
    · intro hr
      cases hr with
      | oskip _ h3 _ => rw [hw] at h3; cases h3
      | oeff _ _ h3 h4 h5 => exact .oeff h1 h2 h3 h4 h5
      | ocall _ _ h3 h4 h5 h6 h7 => exact .ocall h1 h2 h3 h4 h5 h6 h7
      | ocallp _ _ h3 h4 h5 h6 h7 => exact .ocallp h1 h2 h3 h4 h5 h6 h7
      | opanic _ _ h3 h4 h5 => exact .opanic h1 h2 h3 h4 h5
  · rw [if_neg hb]
    rw [decide_eq_false hb] at h2
    constructor
    · intro hr
      cases hr with
      | oskip _ _ h3 => exact h3
      | oeff _ h3 _ _ _ => rw [h2] at h3; cases h3
      | ocall _ h3 _ _ _ _ _ => rw [h2] at h3; cases h3
      | ocallp _ h3 _ _ _ _ _ => rw [h2] at h3; cases h3
      | opanic _ h3 _ _ _ => rw [h2] at h3; cases h3
    · exact fun hr => .oskip h1 h2 hr
theorem runG_true {K : List Frm} {all r : List Oper} {d : Option Tmp} {op : Op} {t : TypeId} {p : String} {af : Array Edge} {j : Nat} {want : Bool} {e : Env} {h : Heap} :
    RunG P ng sp Q K all r ⟨d, op, t, p, af, some (j, want)⟩ j (.bool true) e h ↔ .bool true = gval all e j ∧ (if true = want then Run P ng sp Q K (.ops all (⟨d, op, t, p, af, none⟩ :: r)) e h else Run P ng sp Q K (.ops all r) (e.put d undef) h) := runG_bool
theorem runG_false {K : List Frm} {all r : List Oper} {d : Option Tmp} {op : Op} {t : TypeId} {p : String} {af : Array Edge} {j : Nat} {want : Bool} {e : Env} {h : Heap} :
    RunG P ng sp Q K all r ⟨d, op, t, p, af, some (j, want)⟩ j (.bool false) e h ↔ .bool false = gval all e j ∧ (if false = want then Run P ng sp Q K (.ops all (⟨d, op, t, p, af, none⟩ :: r)) e h else Run P ng sp Q K (.ops all r) (e.put d undef) h) := runG_bool
/- ## Regions whose order is open -/
theorem run_draw {K : List Frm} {id : Nat} {ops : Array Oper} {ps : List (Nat × Nat)} {e : Env} {h : Heap} (ht : drawText ops = true) (hp : dynPairs ops.toList = ps) (hr : Run P ng sp Q K (.rcd ps ops.toList ops.toList []) e h) : Run P ng sp Q K (.code (.region id ops true)) e h := .draw ht hp hr
def RunVR (P : Program) (ng : Nat) (sp : Special) (Q : AExit → Env → Heap → Prop) (K : List Frm) (ps : List (Nat × Nat)) (all r : List Oper) (acc : List Did) (rd : List Nat) (d : Option Tmp) (x : Option Eff) (e : Env) (h : Heap) : Prop :=
  ∃ f, x = some f ∧ Run P ng sp Q K (.rcd ps all r (acc ++ [.eff rd f h.nx])) (e.put d f.val) (h.apply f)
theorem runVR_ret {K : List Frm} {ps : List (Nat × Nat)} {all r : List Oper} {acc : List Did} {rd : List Nat} {d : Option Tmp} {v : Value} {e : Env} {h : Heap} : RunVR P ng sp Q K ps all r acc rd d (ret v) e h ↔ Run P ng sp Q K (.rcd ps all r (acc ++ [.eff rd ⟨v, [], []⟩ h.nx])) (e.put d v) h :=
  ⟨fun ⟨f, h1, h2⟩ => by cases h1; exact h2, fun h => ⟨_, rfl, h⟩⟩
theorem runVR_some {K : List Frm} {ps : List (Nat × Nat)} {all r : List Oper} {acc : List Did} {rd : List Nat} {d : Option Tmp} {f : Eff} {e : Env} {h : Heap} : RunVR P ng sp Q K ps all r acc rd d (some f) e h ↔ Run P ng sp Q K (.rcd ps all r (acc ++ [.eff rd f h.nx])) (e.put d f.val) (h.apply f) :=
  ⟨fun ⟨f, h1, h2⟩ => by cases h1; exact h2, fun h => ⟨_, rfl, h⟩⟩
theorem rcd_plain {K : List Frm} {ps : List (Nat × Nat)} {all r : List Oper} {acc : List Did} {o : Oper} {e : Env} {h : Heap} (hg : o.guard = none) (hp : plainOp o.op = true) :
    Run P ng sp Q K (.rcd ps all (o :: r) acc) e h ↔ RunVR P ng sp Q K ps all r acc (foot o.op e.eval) o.dst (eff P o.op e.eval h.get h.nx) e h := by
  constructor
  · intro hr
    cases hr with
    | rskip _ h2 _ => rw [wanted_none hg] at h2; cases h2
    | reff _ _ _ h4 h5 => exact ⟨_, h4, h5⟩
    | rcall _ _ h3 h4 _ _ _ =>
      rw [h3] at hp
      exact (plain_not_call hp h4).elim
  · rintro ⟨f, h1, h2⟩
    exact .reff (guardOk_none hg) (wanted_none hg) hp h1 h2
def AfterR (P : Program) (ng : Nat) (sp : Special) (Q : AExit → Env → Heap → Prop) (K : List Frm) (ps : List (Nat × Nat)) (all r : List Oper) (acc : List Did) (d : Option Tmp) (e : Env) (h : Heap) (o : Out) (h' : Heap) : Prop := match o with
    | .ret v => Run P ng sp Q K (.rcd ps all r (acc ++ [.call h h'])) (e.put d v) h'
    | .pan _ => False
theorem afterR_ret {K : List Frm} {ps : List (Nat × Nat)} {all r : List Oper} {acc : List Did} {d : Option Tmp} {e : Env} {v : Value} {h h' : Heap} : AfterR P ng sp Q K ps all r acc d e h (.ret v) h' ↔ Run P ng sp Q K (.rcd ps all r (acc ++ [.call h h'])) (e.put d v) h' := Iff.rfl
def RunCR (P : Program) (ng : Nat) (sp : Special) (Q : AExit → Env → Heap → Prop) (K : List Frm) (ps : List (Nat × Nat)) (all r : List Oper) (acc : List Did) (d : Option Tmp) (x : Option (FuncId × List Value)) (e : Env) (h : Heap) : Prop :=
  ∃ y, x = some y ∧ WF P ng sp y.1 y.2 h (AfterR P ng sp Q K ps all r acc d e h)
theorem runCR_of {K : List Frm} {ps : List (Nat × Nat)} {all r : List Oper} {acc : List Did} {d : Option Tmp} {f : FuncId} {args : List Value} {e : Env} {h : Heap} (hf : WF P ng sp f args h (AfterR P ng sp Q K ps all r acc d e h)) : RunCR P ng sp Q K ps all r acc d (some (f, args)) e h := ⟨_, rfl, hf⟩
theorem rcd_call {K : List Frm} {ps : List (Nat × Nat)} {all r : List Oper} {acc : List Did} {o : Oper} {c : Call} {e : Env} {h : Heap} (hg : o.guard = none) (ho : o.op = .call c) (hc : isCallee c = true) :
    Run P ng sp Q K (.rcd ps all (o :: r) acc) e h ↔ RunCR P ng sp Q K ps all r acc o.dst (callee P c e.eval) e h := by
  constructor
  · intro hr
    cases hr with
    | rskip _ h2 _ => rw [wanted_none hg] at h2; cases h2
    | reff _ _ h3 h4 h5 =>
      rw [ho] at h3
      exact (plain_not_call h3 hc).elim
    | rcall _ _ h3 h4 h5 h6 h7 =>
      have h3 := Op.call.inj (ho.symm.trans h3)
      subst h3
      exact ⟨_, h5, _, _, h6, h7⟩
  · rintro ⟨y, h1, o', h', h2, h3⟩
    cases o' with
    | ret v => exact .rcall (guardOk_none hg) (wanted_none hg) ho hc h1 h2 h3
    | pan v => exact h3.elim
theorem rcd_nil {K : List Frm} {ps : List (Nat × Nat)} {all : List Oper} {acc : List Did} {e : Env} {h : Heap} : Run P ng sp Q K (.rcd ps all [] acc) e h ↔ didsOk ps acc = true ∧ Run P ng sp Q K (.exit .normal) e h := ⟨fun h => by cases h with | rnil h1 h2 => exact ⟨h1, h2⟩, fun h => .rnil h.1 h.2⟩
def RunGR (P : Program) (ng : Nat) (sp : Special) (Q : AExit → Env → Heap → Prop) (K : List Frm) (ps : List (Nat × Nat)) (all r : List Oper) (acc : List Did) (o : Oper) (j : Nat) (v : Value) (e : Env) (h : Heap) : Prop := v = gval all e j ∧ Run P ng sp Q K (.rcd ps all (o :: r) acc) e h
theorem rcd_guard {K : List Frm} {ps : List (Nat × Nat)} {all r : List Oper} {acc : List Did} {d : Option Tmp} {op : Op} {t : TypeId} {p : String} {af : Array Edge} {j : Nat} {want : Bool} {e : Env} {h : Heap} :
    Run P ng sp Q K (.rcd ps all (⟨d, op, t, p, af, some (j, want)⟩ :: r) acc) e h ↔ RunGR P ng sp Q K ps all r acc ⟨d, op, t, p, af, some (j, want)⟩ j (gval all e j) e h := ⟨fun h => ⟨rfl, h⟩, fun h => h.2⟩
theorem runGR_bool {K : List Frm} {ps : List (Nat × Nat)} {all r : List Oper} {acc : List Did} {d : Option Tmp} {op : Op} {t : TypeId} {p : String} {af : Array Edge} {j : Nat} {want b : Bool} {e : Env} {h : Heap} :
    RunGR P ng sp Q K ps all r acc ⟨d, op, t, p, af, some (j, want)⟩ j (.bool b) e h ↔ .bool b = gval all e j ∧ (if b = want then Run P ng sp Q K (.rcd ps all (⟨d, op, t, p, af, none⟩ :: r) acc) e h else Run P ng sp Q K (.rcd ps all r (acc ++ [.skip])) (e.put d undef) h) := by
  refine and_congr_right fun hv => ?_
  obtain ⟨h1, h2⟩ := @guard_val all e ⟨d, op, t, p, af, some (j, want)⟩ j want b rfl hv.symm
  have hw := @wanted_none all e ⟨d, op, t, p, af, none⟩ rfl
  have hk := @guardOk_none all e ⟨d, op, t, p, af, none⟩ rfl
  by_cases hb : b = want
  · rw [if_pos hb]
    rw [decide_eq_true hb] at h2
    constructor
    · intro hr
      cases hr with
      | rskip _ h3 _ => rw [h2] at h3; cases h3
      | reff _ _ h3 h4 h5 => exact .reff hk hw h3 h4 h5
      | rcall _ _ h3 h4 h5 h6 h7 => exact .rcall hk hw h3 h4 h5 h6 h7
    · intro hr
      cases hr with
      | rskip _ h3 _ => rw [hw] at h3; cases h3
      | reff _ _ h3 h4 h5 => exact .reff h1 h2 h3 h4 h5
      | rcall _ _ h3 h4 h5 h6 h7 => exact .rcall h1 h2 h3 h4 h5 h6 h7
  · rw [if_neg hb]
    rw [decide_eq_false hb] at h2
    constructor
    · intro hr
      cases hr with
      | rskip _ _ h3 => exact h3
      | reff _ h3 _ _ _ => rw [h2] at h3; cases h3
      | rcall _ h3 _ _ _ _ _ => rw [h2] at h3; cases h3
    · exact fun hr => .rskip h1 h2 hr
theorem runGR_true {K : List Frm} {ps : List (Nat × Nat)} {all r : List Oper} {acc : List Did} {d : Option Tmp} {op : Op} {t : TypeId} {p : String} {af : Array Edge} {j : Nat} {want : Bool} {e : Env} {h : Heap} :
    RunGR P ng sp Q K ps all r acc ⟨d, op, t, p, af, some (j, want)⟩ j (.bool true) e h ↔ .bool true = gval all e j ∧ (if true = want then Run P ng sp Q K (.rcd ps all (⟨d, op, t, p, af, none⟩ :: r) acc) e h else Run P ng sp Q K (.rcd ps all r (acc ++ [.skip])) (e.put d undef) h) := runGR_bool
theorem runGR_false {K : List Frm} {ps : List (Nat × Nat)} {all r : List Oper} {acc : List Did} {d : Option Tmp} {op : Op} {t : TypeId} {p : String} {af : Array Edge} {j : Nat} {want : Bool} {e : Env} {h : Heap} :
    RunGR P ng sp Q K ps all r acc ⟨d, op, t, p, af, some (j, want)⟩ j (.bool false) e h ↔ .bool false = gval all e j ∧ (if false = want then Run P ng sp Q K (.rcd ps all (⟨d, op, t, p, af, none⟩ :: r) acc) e h else Run P ng sp Q K (.rcd ps all r (acc ++ [.skip])) (e.put d undef) h) := runGR_bool

/- ## Functions -/
def FnQ (P : Program) (rs : List ResultVar) (R : Out → Heap → Prop) : AExit → Env → Heap → Prop := fun ex e h => match ex with
  | .normal => ∃ v, resultV P e h rs = some v ∧ R (.ret v) h
  | .ret => ∃ v, resultV P e h rs = some v ∧ R (.ret v) h
  | .pan v => R (.pan v) h
  | _ => False
theorem fnQ_normal {rs : List ResultVar} {R : Out → Heap → Prop} {e : Env} {h : Heap} : FnQ P rs R .normal e h ↔ ∃ v, resultV P e h rs = some v ∧ R (.ret v) h := Iff.rfl
theorem fnQ_ret {rs : List ResultVar} {R : Out → Heap → Prop} {e : Env} {h : Heap} : FnQ P rs R .ret e h ↔ ∃ v, resultV P e h rs = some v ∧ R (.ret v) h := Iff.rfl
theorem fnQ_pan {rs : List ResultVar} {R : Out → Heap → Prop} {v : Value} {e : Env} {h : Heap} : FnQ P rs R (.pan v) e h ↔ R (.pan v) h := Iff.rfl
theorem wf_fn {f : FuncId} {fn : Func} {c : Code} {args : List Value} {h : Heap} {R : Out → Heap → Prop} (hs : (sp f).isNone = true) (hf : P.funcs[f]? = some fn) (hok : fnOk ng fn = true) (hb : fn.body = some c)
    (hr : Run P ng sp (FnQ P fn.results.toList R) [] (.code c) (storeL .leaf 0 args) h) : WF P ng sp f args h R := by
  obtain ⟨ex, e', h', ⟨N, hN⟩, hx⟩ := hr.sem
  have hx : FnQ P fn.results.toList R ex e' h' := hx
  have hs : sp f = none := by simpa using hs
  have key : ∀ o, (match some (ex, e', h') with
          | some (AExit.normal, e, h') => match resultV P e h' fn.results.toList with
            | some v => some (Out.ret v, h')
            | none => none
          | some (AExit.ret, e, h') => match resultV P e h' fn.results.toList with
            | some v => some (Out.ret v, h')
            | none => none
          | some (AExit.pan v, _, h') => some (Out.pan v, h')
          | _ => none) = some (o, h') → R o h' → WF P ng sp f args h R := by
    intro o ho hro
    refine ⟨o, h', ⟨N + 1, fun fu d h1 h2 => ?_⟩, hro⟩
    obtain ⟨d, rfl⟩ : ∃ k, d = k + 1 := ⟨d - 1, by omega⟩
    rw [acall_succ]
    unfold callF
    rw [hs, hf]
    simp only
    rw [hok, hb]
    simp only
    rw [hN fu d fu (by omega) (by omega) (by omega)]
    exact ho
  cases ex with
  | normal =>
    obtain ⟨v, h1, h2⟩ := hx
    exact key (.ret v) (by simp only [h1]) h2
  | ret =>
    obtain ⟨v, h1, h2⟩ := hx
    exact key (.ret v) (by simp only [h1]) h2
  | pan v => exact key (.pan v) rfl hx
  | exit i => exact hx.elim
  | goto l => exact hx.elim
theorem resultV_one (e : Env) (h : Heap) (t : Tmp) : resultV P e h [.tmp t] = some (e.at t) := rfl
theorem resultV_nil (e : Env) (h : Heap) : resultV P e h [] = some (.tuple #[]) := rfl
theorem resultV_two (e : Env) (h : Heap) (a b : ResultVar) (l : List ResultVar) : resultV P e h (a :: b :: l) = (resAll P e h (a :: b :: l)).map fun vs => .tuple vs.toArray := by
  unfold resultV
  simp only
  cases resAll P e h (a :: b :: l) <;> rfl
theorem resAll_nil (e : Env) (h : Heap) : resAll P e h [] = some [] := rfl
theorem resAll_tmp (e : Env) (h : Heap) (t : Tmp) (l : List ResultVar) : resAll P e h (.tmp t :: l) = (resAll P e h l).map fun vs => e.at t :: vs := by
  rw [resAll]
  show (match some (e.at t), resAll P e h l with | some v, some vs => some (v :: vs) | _, _ => none) = _
  cases resAll P e h l <;> rfl
theorem callee_func (f : FuncId) (as : Array Operand) (ts : Array TypeId) (e : Env) : callee P ⟨.value (.func f), as, ts⟩ e.eval = some (f, as.toList.map e.eval) := by
  unfold callee
  show some (f, [] ++ as.toList.map e.eval ++ []) = _
  simp
theorem callee_tmp (t : Tmp) (as : Array Operand) (ts : Array TypeId) (e : Env) : callee P ⟨.value (.tmp t), as, ts⟩ e.eval = (match e.at t with
    | .func (.func f) first captured => some (f, first.toList ++ as.toList.map e.eval ++ captured.toList)
    | _ => none) := rfl

/- ## Operations, one by one -/
section
variable (ρ : Operand → Value) (g : Nat → Option Blk) (nx : Nat)
theorem effPick_true (a b : Value) : effPick (.bool true) a b = ret a := rfl
theorem effPick_false (a b : Value) : effPick (.bool false) a b = ret b := rfl
theorem effNil_ptr (a : Addr) : effNil P (.pointer (some a)) = ret (.pointer (some a)) := rfl
theorem effNil_ifc (t : TypeId) (v : Value) : effNil P (.iface t v) = ret (.iface t v) := rfl
theorem effNil_func (f : FuncId) (a b : Array Value) : effNil P (.func (.func f) a b) = ret (.func (.func f) a b) := rfl
theorem effExtract_tuple (vs : Array Value) (i : Nat) : effExtract (.tuple vs) i = match vs.toList[i]? with
    | some v => if storable v then ret v else none
    | none => none := rfl
end
theorem storable_bool (b : Bool) : storable (.bool b) = true := rfl
theorem storable_int (k : IntKind) (n : Int) : storable (.int k n) = true := rfl
theorem storable_string (s : ByteArray) : storable (.string s) = true := rfl
theorem storable_pointer (a : Option Addr) : storable (.pointer a) = true := rfl
theorem storable_slice (a : Option Addr) (l c : Nat) : storable (.slice a l c) = true := rfl
theorem storable_agg (c : Array Value) : storable (.agg c) = true := rfl
theorem storable_iface (t : TypeId) (v : Value) : storable (.iface t v) = true := rfl
theorem storable_nilIface : storable .nilIface = true := rfl
end Go.AM
end
section
/- The rules for rewriting without conditions: facts of types are looked up. -/
namespace Go.AM
variable {P : Program} {ng : Nat} {sp : Special} {Q : AExit → Env → Heap → Prop}
def tagD (P : Program) : TypeDesc → Nat
  | .bool => 1
  | .pointer _ => 2
  | .string => 3
  | .slice e => match P.underlying e with
    | some (.int .u8) => 5
    | _ => 4
  | .map _ _ => 6
  | .func _ _ _ => 7
  | .interface _ => 8
  | _ => 9
theorem tag_of {t : TypeId} {d : TypeDesc} (hu : P.underlying t = some d) : tyTag P t = tagD P d := by
  unfold tyTag tagD
  rw [hu]
  cases d <;> rfl
theorem u_eql_bool (t : TypeId) (x y : Operand) (a b : Bool) (g : Nat → Option Blk) : effBin P .eql t x y (.bool a) (.bool b) g = if tyTag P t = 1 then ret (.bool (a == b)) else none := by
  by_cases h : tyTag P t = 1
  · rw [if_pos h, effBin_eql_bool _ _ _ _ _ _ h]
  · rw [if_neg h]
    show (eqlV P t (.bool a) (.bool b) g).bind _ = _
    unfold eqlV
    cases hu : P.underlying t with
    | none => rfl
    | some d => have := tag_of hu; cases d <;> first | rfl | exact absurd this h
theorem u_neq_bool (t : TypeId) (x y : Operand) (a b : Bool) (g : Nat → Option Blk) : effBin P .neq t x y (.bool a) (.bool b) g = if tyTag P t = 1 then ret (.bool !(a == b)) else none := by
  by_cases h : tyTag P t = 1
  · rw [if_pos h, effBin_neq_bool _ _ _ _ _ _ h]
  · rw [if_neg h]
    show (eqlV P t (.bool a) (.bool b) g).bind _ = _
    unfold eqlV
    cases hu : P.underlying t with
    | none => rfl
    | some d => have := tag_of hu; cases d <;> first | rfl | exact absurd this h
theorem u_eql_ptr (t : TypeId) (x y : Operand) (a : Option Addr) (g : Nat → Option Blk) : effBin P .eql t x y (.pointer a) (.pointer none) g = if tyTag P t = 2 then ret (.bool a.isNone) else none := by
  by_cases h : tyTag P t = 2
  · rw [if_pos h, (effBin_ptr _ _ _ _ _ h).1]
  · rw [if_neg h]
    show (eqlV P t _ _ g).bind _ = _
    unfold eqlV
    cases hu : P.underlying t with
    | none => rfl
    | some d => have := tag_of hu; cases d <;> first | rfl | exact absurd this h
theorem u_neq_ptr (t : TypeId) (x y : Operand) (a : Option Addr) (g : Nat → Option Blk) : effBin P .neq t x y (.pointer a) (.pointer none) g = if tyTag P t = 2 then ret (.bool !a.isNone) else none := by
  by_cases h : tyTag P t = 2
  · rw [if_pos h, (effBin_ptr _ _ _ _ _ h).2.1]
  · rw [if_neg h]
    show (eqlV P t _ _ g).bind _ = _
    unfold eqlV
    cases hu : P.underlying t with
    | none => rfl
    | some d => have := tag_of hu; cases d <;> first | rfl | exact absurd this h
theorem u_eql_slc (t : TypeId) (x y : Operand) (a : Option Addr) (l c : Nat) (g : Nat → Option Blk) : effBin P .eql t x y (.slice a l c) (.slice none 0 0) g = if tyTag P t = 4 ∨ tyTag P t = 5 then ret (.bool a.isNone) else none := by
  by_cases h : tyTag P t = 4 ∨ tyTag P t = 5
  · rw [if_pos h, (effBin_slc _ _ _ _ _ _ _ h).1]
  · rw [if_neg h]
    show (eqlV P t _ _ g).bind _ = _
    unfold eqlV
    cases hu : P.underlying t with
    | none => rfl
    | some d =>
      have := tag_of hu
      cases d <;> first | rfl | skip
      exfalso
      have this : tyTag P t = (match P.underlying _ with
        | some (.int .u8) => 5
        | _ => 4) := this
      split at this
      · exact h (.inr this)
      · exact h (.inl this)
theorem u_neq_slc (t : TypeId) (x y : Operand) (a : Option Addr) (l c : Nat) (g : Nat → Option Blk) : effBin P .neq t x y (.slice a l c) (.slice none 0 0) g = if tyTag P t = 4 ∨ tyTag P t = 5 then ret (.bool !a.isNone) else none := by
  by_cases h : tyTag P t = 4 ∨ tyTag P t = 5
  · rw [if_pos h, (effBin_slc _ _ _ _ _ _ _ h).2]
  · rw [if_neg h]
    show (eqlV P t _ _ g).bind _ = _
    unfold eqlV
    cases hu : P.underlying t with
    | none => rfl
    | some d =>
      have := tag_of hu
      cases d <;> first | rfl | skip
      exfalso
      have this : tyTag P t = (match P.underlying _ with
        | some (.int .u8) => 5
        | _ => 4) := this
      split at this
      · exact h (.inr this)
      · exact h (.inl this)
theorem u_eql_ifc (t : TypeId) (x y : Operand) (a : TypeId) (v : Value) (g : Nat → Option Blk) : effBin P .eql t x y (.iface a v) .nilIface g = if tyTag P t = 8 then ret (.bool false) else none := by
  by_cases h : tyTag P t = 8
  · rw [if_pos h, (effBin_ifc _ _ _ _ _ _ h).1]
  · rw [if_neg h]
    show (eqlV P t _ _ g).bind _ = _
    unfold eqlV
    cases hu : P.underlying t with
    | none => rfl
    | some d => have := tag_of hu; cases d <;> first | rfl | exact absurd this h
theorem u_neq_ifc (t : TypeId) (x y : Operand) (a : TypeId) (v : Value) (g : Nat → Option Blk) : effBin P .neq t x y (.iface a v) .nilIface g = if tyTag P t = 8 then ret (.bool true) else none := by
  by_cases h : tyTag P t = 8
  · rw [if_pos h, (effBin_ifc _ _ _ _ _ _ h).2]
  · rw [if_neg h]
    show (eqlV P t _ _ g).bind _ = _
    unfold eqlV
    cases hu : P.underlying t with
    | none => rfl
    | some d => have := tag_of hu; cases d <;> first | rfl | exact absurd this h
def cvI (s : Option Bool) (d : Option IntKind) (tag : Nat) (n : Int) : Option Eff := match s, d with
  | some _, some k => ret (.int k (wrapF k n))
  | some _, none => if tag = 3 then ret (.string (Utf8.encode n)) else none
  | none, _ => none
theorem u_conv (s d : TypeId) (k : IntKind) (n : Int) (g : Nat → Option Blk) (nx : Nat) : effConv P s d (.int k n) g nx = cvI (tyA P s) (intK P d) (tyTag P d) n := by
  unfold effConv cvI tyA intK
  cases P.underlying s with
  | none => simp only [Option.map_none]
  | some ds =>
    simp only [Option.map_some]
    cases hu : P.underlying d with
    | none => simp [tyTag, hu]
    | some dd =>
      have := tag_of hu
      cases dd <;> simp only [this, tagD] <;> first | rfl | skip
      split <;> rfl
theorem cvI_int (b : Bool) (k : IntKind) (tag : Nat) (n : Int) : cvI (some b) (some k) tag n = ret (.int k (wrapF k n)) := rfl
theorem u_field (t : TypeId) (cs : Array Value) (f : Nat) : effFieldV P t (.agg cs) f = fvX (fldOf P t f) cs.toList := by
  by_cases hs : (fldOf P t f).isSome = true
  · exact effFieldV_eq t cs f hs
  · have hn : fldOf P t f = none := by simpa using hs
    rw [hn]
    unfold effFieldV
    unfold fldOf at hn
    cases hu : P.underlying t with
    | none => rfl
    | some d =>
      rw [hu] at hn
      cases d <;> first | rfl | skip
      rename_i fields
      simp only at hn ⊢
      cases hf : fields.toList[f]? with
      | none => rfl
      | some fd =>
        rw [hf] at hn
        simp only [Option.map_eq_none_iff] at hn
        simp only
        rw [aPart_eq]
        unfold tyA Program.underlying
        unfold sizeOf? at hn
        rw [Option.map_eq_none_iff] at hn
        rw [hn]
        rfl
def ivX (x : Option (Nat × Option Bool × Nat)) (ix : Value) (l : List Value) : Option Eff := match x with
  | some (n, g, s) => match idx ix n with
    | some i => fvX (some (i * s, g, s)) l
    | none => none
  | none => none
theorem ivX_some (n s : Nat) (g : Option Bool) (k : IntKind) (i : Int) (l : List Value) : ivX (some (n, g, s)) (.int k i) l = if 0 ≤ i ∧ i < n then fvX (some (i.toNat * s, g, s)) l else none := by
  unfold ivX
  simp only [idx_int]
  by_cases h : 0 ≤ i ∧ i < n
  · rw [if_pos h, if_pos h]
  · rw [if_neg h, if_neg h]
def aLenO (P : Program) (ts : Array TypeId) (x : Value) (g : Nat → Option Blk) : Option Eff := aLen P ts x g
theorem u_len_slc (t : TypeId) (a : Option Addr) (n c : Nat) (g : Nat → Option Blk) : aLen P #[t] (.slice a n c) g = if tyTag P t = 4 ∨ tyTag P t = 5 then ret (.int .i64 n) else aLenO P #[t] (.slice a n c) g := by
  by_cases h : tyTag P t = 4 ∨ tyTag P t = 5
  · rw [if_pos h]
    obtain ⟨e, he⟩ : ∃ e, P.underlying t = some (.slice e) := by
      rcases h with h | h
      · exact (tag_eq h).2.2.2.1 (.inl rfl)
      · exact (tag_eq h).2.2.2.1 (.inr rfl)
    unfold aLen
    simp only [he]
  · rw [if_neg h]; rfl
theorem u_len_str (t : TypeId) (s : ByteArray) (g : Nat → Option Blk) : aLen P #[t] (.string s) g = if tyTag P t = 3 then ret (.int .i64 s.size) else aLenO P #[t] (.string s) g := by
  by_cases h : tyTag P t = 3
  · rw [if_pos h, eff_len_str _ t s g rfl h]
  · rw [if_neg h]; rfl
def mlX (x : Option Blk) : Option Eff := match x with
  | some (.map es _) => ret (.int .i64 es.length)
  | _ => none
theorem u_len_map (t : TypeId) (r : Nat) (g : Nat → Option Blk) : aLen P #[t] (.map (some r)) g = if tyTag P t = 6 then mlX (g r) else aLenO P #[t] (.map (some r)) g := by
  by_cases h : tyTag P t = 6
  · rw [if_pos h, eff_len_map _ t r g rfl h]; rfl
  · rw [if_neg h]; rfl
theorem mlX_some (es : List (Value × Value × Nat)) (c : Nat) : mlX (some (.map es c)) = ret (.int .i64 es.length) := rfl
section
variable (ρ : Operand → Value) (g : Nat → Option Blk) (nx : Nat)
end
theorem u_min2 (ts : Array TypeId) (k : IntKind) (a b : Int) (g : Nat → Option Blk) (nx : Nat) : builtinEff P .min ts [.int k a, .int k b] g nx = ret (.int k (if b < a then b else a)) := by
  show ret (.int k (cond (ltI b a) b a)) = _
  rw [ltI_eq]
  by_cases h : b < a
  · rw [if_pos h, decide_eq_true h]; rfl
  · rw [if_neg h, decide_eq_false h]; rfl
theorem u_max2 (ts : Array TypeId) (k : IntKind) (a b : Int) (g : Nat → Option Blk) (nx : Nat) : builtinEff P .max ts [.int k a, .int k b] g nx = ret (.int k (if a < b then b else a)) := by
  show ret (.int k (cond (ltI a b) b a)) = _
  rw [ltI_eq]
  by_cases h : a < b
  · rw [if_pos h, decide_eq_true h]; rfl
  · rw [if_neg h, decide_eq_false h]; rfl
theorem stX_exact (b off : Nat) (v : Value) (l : List Value) : stX b off (some [v]) (some 1) (some (cellsB l .exact)) = if off < l.length then some ⟨undef, [(b, cellsB (l.set off v) .exact)], []⟩ else none := stX_one b off v l .exact (by simp)
theorem stX_loose (b off e : Nat) (v : Value) (l : List Value) : stX b off (some [v]) (some 1) (some (cellsB l (.loose e))) = if off < l.length then some ⟨undef, [(b, cellsB (l.set off v) (.loose e))], []⟩ else none := stX_one b off v l (.loose e) (by simp)
theorem stX_bytes (b off : Nat) (v : Value) (l : List Value) : stX b off (some [v]) (some 1) (some (cellsB l .bytes)) = if off < l.length then some ⟨undef, [(b, cellsB (l.set off v) .bytes)], []⟩ else none := stX_one b off v l .bytes (by simp)
theorem stX_exactN (b off : Nat) (vs : List Value) (s : Nat) (l : List Value) : stX b off (some vs) (some s) (some (cellsB l .exact)) = if vs.length = s ∧ off + s ≤ l.length then some ⟨undef, [(b, cellsB (overL l off vs) .exact)], []⟩ else none := by
  rw [stX_eq]
  by_cases h : vs.length = s ∧ off + s ≤ l.length
  · rw [if_pos h, if_pos ⟨by simp, h⟩]
  · rw [if_neg h, if_neg (fun hh => h hh.2)]
noncomputable def sadX (x : Option Blk) (b off l m cap size : Nat) (mx : Bool) : Option (Option Addr) := match x with
  | some (.cells _ n k) =>
      match k with
      | .loose e => if off + cap * e = n ∧ mx = false then (if e = size then some (some ⟨b, off + l * size, none⟩) else none)
          else some (if m = l then some ⟨b, off, none⟩ else some ⟨b, off + l * size, none⟩)
      | .bytes => if off + cap = n ∧ mx = false then (if 1 = size then some (some ⟨b, off + l * size, none⟩) else none)
          else some (if m = l then some ⟨b, off, none⟩ else some ⟨b, off + l * size, none⟩)
      | .own _ => if off + cap = n ∧ mx = false then (if 1 = size then some (some ⟨b, off + l * size, none⟩) else none)
          else some (if m = l then some ⟨b, off, none⟩ else some ⟨b, off + l * size, none⟩)
      | _ => some (if m = l then some ⟨b, off, none⟩ else some ⟨b, off + l * size, none⟩)
  | _ => none
theorem u_sliceAddr (b off l m cap size : Nat) (mx : Bool) (g : Nat → Option Blk) : sliceAddr (some ⟨b, off, none⟩) l m cap size mx g = sadX (g b) b off l m cap size mx := rfl
theorem sadX_exact (xs : List Value) (b off l m cap size : Nat) (mx : Bool) : sadX (some (cellsB xs .exact)) b off l m cap size mx = some (if m = l then some ⟨b, off, none⟩ else some ⟨b, off + l * size, none⟩) := rfl
theorem sadX_ro (xs : List Value) (b off l m cap size : Nat) (mx : Bool) : sadX (some (cellsB xs .ro)) b off l m cap size mx = some (if m = l then some ⟨b, off, none⟩ else some ⟨b, off + l * size, none⟩) := rfl
noncomputable def fsX (x : Option Blk) (off n size : Nat) : Option (List Value) := match n with
  | 0 => some []
  | n + 1 => match x with
    | some (.cells xs m _) => if off + (n + 1) * size ≤ m then some (loadL xs off ((n + 1) * size)) else none
    | _ => none
theorem u_firstL (g : Nat → Option Blk) (size n b off l c : Nat) : firstL g size n (.slice (some ⟨b, off, none⟩) l c) = fsX (g b) off n size := by cases n <;> rfl
theorem fsX_some (xs : List Value) (k : Kind) (off n size : Nat) (h : off + n * size ≤ xs.length) : fsX (some (cellsB xs k)) off n size = some ((xs.drop off).take (n * size)) := by
  cases n with
  | zero => rw [Nat.zero_mul]; rfl
  | succ n =>
    unfold fsX cellsB
    simp only
    rw [if_pos h, loadL_ofList _ _ _ h]
theorem u_bounds (len cap : Nat) (lo hi : Option Value) : bounds len cap lo hi none = match bnd hi len cap with
    | none => none
    | some h => match bnd lo 0 h with
      | none => none
      | some l => if h ≤ cap then some (l, h, cap) else none := by
  unfold bounds
  simp only [bnd_none]
  rw [if_neg (by simp)]
  cases bnd hi len cap with
  | none => rfl
  | some h =>
    simp only
    cases bnd lo 0 h with
    | none => rfl
    | some l =>
      simp only
      by_cases hh : h ≤ cap
      · rw [show Nat.ble h cap = true from by simpa [Nat.ble_eq] using hh, if_pos hh]; rfl
      · rw [show Nat.ble h cap = false from by rw [← Bool.not_eq_true, Nat.ble_eq]; exact hh, if_neg hh]; rfl
end Go.AM
end
section
/- The steps of the small machine, an operation each. No condition. -/
namespace Go.AM
variable {P : Program} {ng : Nat} {sp : Special} {Q : AExit → Env → Heap → Prop} {K : List Frm} {all r : List Oper} {d : Option Tmp} {ty : TypeId} {p : String} {af : Array Edge} {e : Env} {h : Heap} {ps : List (Nat × Nat)} {acc : List Did}
theorem o_move (x : Operand) : Run P ng sp Q K (.ops all (⟨d, .move x, ty, p, af, none⟩ :: r)) e h ↔ Run P ng sp Q K (.ops all r) (e.put d (e.eval x)) h := (run_plain rfl rfl).trans runV_ret
theorem q_move (x : Operand) : Run P ng sp Q K (.rcd ps all (⟨d, .move x, ty, p, af, none⟩ :: r) acc) e h ↔ Run P ng sp Q K (.rcd ps all r (acc ++ [.eff [] ⟨e.eval x, [], []⟩ h.nx])) (e.put d (e.eval x)) h := (rcd_plain rfl rfl).trans runVR_ret
theorem o_assign (x : Operand) : Run P ng sp Q K (.ops all (⟨d, .assign x, ty, p, af, none⟩ :: r)) e h ↔ Run P ng sp Q K (.ops all r) (e.put d (e.eval x)) h := (run_plain rfl rfl).trans runV_ret
theorem q_assign (x : Operand) : Run P ng sp Q K (.rcd ps all (⟨d, .assign x, ty, p, af, none⟩ :: r) acc) e h ↔ Run P ng sp Q K (.rcd ps all r (acc ++ [.eff [] ⟨e.eval x, [], []⟩ h.nx])) (e.put d (e.eval x)) h := (rcd_plain rfl rfl).trans runVR_ret
theorem o_pick (c a b : Operand) : Run P ng sp Q K (.ops all (⟨d, .pick c a b, ty, p, af, none⟩ :: r)) e h ↔ RunV P ng sp Q K (.ops all r) d (effPick (e.eval c) (e.eval a) (e.eval b)) e h := run_plain rfl rfl
theorem q_pick (c a b : Operand) : Run P ng sp Q K (.rcd ps all (⟨d, .pick c a b, ty, p, af, none⟩ :: r) acc) e h ↔ RunVR P ng sp Q K ps all r acc (foot (.pick c a b) e.eval) d (effPick (e.eval c) (e.eval a) (e.eval b)) e h := rcd_plain rfl rfl
theorem o_alloc (t : TypeId) : Run P ng sp Q K (.ops all (⟨d, .alloc t, ty, p, af, none⟩ :: r)) e h ↔ RunV P ng sp Q K (.ops all r) d (effAlloc P t h.nx) e h := run_plain rfl rfl
theorem q_alloc (t : TypeId) : Run P ng sp Q K (.rcd ps all (⟨d, .alloc t, ty, p, af, none⟩ :: r) acc) e h ↔ RunVR P ng sp Q K ps all r acc (foot (.alloc t) e.eval) d (effAlloc P t h.nx) e h := rcd_plain rfl rfl
theorem o_box (t : TypeId) (x : Operand) : Run P ng sp Q K (.ops all (⟨d, .box t x, ty, p, af, none⟩ :: r)) e h ↔ RunV P ng sp Q K (.ops all r) d (alX (cellsOf (e.eval x)) h.nx) e h := run_plain rfl rfl
theorem q_box (t : TypeId) (x : Operand) : Run P ng sp Q K (.rcd ps all (⟨d, .box t x, ty, p, af, none⟩ :: r) acc) e h ↔ RunVR P ng sp Q K ps all r acc (foot (.box t x) e.eval) d (alX (cellsOf (e.eval x)) h.nx) e h := rcd_plain rfl rfl
theorem o_build (t : TypeId) (qs : Array (Nat × Operand)) : Run P ng sp Q K (.ops all (⟨d, .build t qs, ty, p, af, none⟩ :: r)) e h ↔ RunV P ng sp Q K (.ops all r) d ((aBuild P t (qs.toList.map fun x => (x.1, e.eval x.2))).bind fun a => ret (.agg a.toArray)) e h := run_plain rfl rfl
theorem q_build (t : TypeId) (qs : Array (Nat × Operand)) : Run P ng sp Q K (.rcd ps all (⟨d, .build t qs, ty, p, af, none⟩ :: r) acc) e h ↔ RunVR P ng sp Q K ps all r acc (foot (.build t qs) e.eval) d ((aBuild P t (qs.toList.map fun x => (x.1, e.eval x.2))).bind fun a => ret (.agg a.toArray)) e h := rcd_plain rfl rfl
theorem o_buildSlice (t : TypeId) (n : Nat) (qs : Array (Nat × Operand)) : Run P ng sp Q K (.ops all (⟨d, .buildSlice t n qs, ty, p, af, none⟩ :: r)) e h ↔ RunV P ng sp Q K (.ops all r) d (effBuildSlice P t n (qs.toList.map fun x => (x.1, e.eval x.2)) h.nx) e h := run_plain rfl rfl
theorem q_buildSlice (t : TypeId) (n : Nat) (qs : Array (Nat × Operand)) : Run P ng sp Q K (.rcd ps all (⟨d, .buildSlice t n qs, ty, p, af, none⟩ :: r) acc) e h ↔ RunVR P ng sp Q K ps all r acc (foot (.buildSlice t n qs) e.eval) d (effBuildSlice P t n (qs.toList.map fun x => (x.1, e.eval x.2)) h.nx) e h := rcd_plain rfl rfl
theorem o_load (t : TypeId) (a : Operand) : Run P ng sp Q K (.ops all (⟨d, .load t a, ty, p, af, none⟩ :: r)) e h ↔ RunV P ng sp Q K (.ops all r) d (effLoad P t (e.eval a) h.get) e h := run_plain rfl rfl
theorem q_load (t : TypeId) (a : Operand) : Run P ng sp Q K (.rcd ps all (⟨d, .load t a, ty, p, af, none⟩ :: r) acc) e h ↔ RunVR P ng sp Q K ps all r acc (foot (.load t a) e.eval) d (effLoad P t (e.eval a) h.get) e h := rcd_plain rfl rfl
theorem o_store (t : TypeId) (a x : Operand) : Run P ng sp Q K (.ops all (⟨d, .store t a x, ty, p, af, none⟩ :: r)) e h ↔ RunV P ng sp Q K (.ops all r) d (effStore P t (e.eval a) (e.eval x) h.get) e h := run_plain rfl rfl
theorem q_store (t : TypeId) (a x : Operand) : Run P ng sp Q K (.rcd ps all (⟨d, .store t a x, ty, p, af, none⟩ :: r) acc) e h ↔ RunVR P ng sp Q K ps all r acc (foot (.store t a x) e.eval) d (effStore P t (e.eval a) (e.eval x) h.get) e h := rcd_plain rfl rfl
theorem o_nilc (x : Operand) : Run P ng sp Q K (.ops all (⟨d, .nilCheck x, ty, p, af, none⟩ :: r)) e h ↔ RunV P ng sp Q K (.ops all r) d (effNil P (e.eval x)) e h := run_plain rfl rfl
theorem q_nilc (x : Operand) : Run P ng sp Q K (.rcd ps all (⟨d, .nilCheck x, ty, p, af, none⟩ :: r) acc) e h ↔ RunVR P ng sp Q K ps all r acc (foot (.nilCheck x) e.eval) d (effNil P (e.eval x)) e h := rcd_plain rfl rfl
theorem o_bin (op : BinOp) (t : TypeId) (x y : Operand) (u : TypeId) : Run P ng sp Q K (.ops all (⟨d, .binOp op t x y u, ty, p, af, none⟩ :: r)) e h ↔ RunV P ng sp Q K (.ops all r) d (effBin P op t x y (e.eval x) (e.eval y) h.get) e h := run_plain rfl rfl
theorem q_bin (op : BinOp) (t : TypeId) (x y : Operand) (u : TypeId) : Run P ng sp Q K (.rcd ps all (⟨d, .binOp op t x y u, ty, p, af, none⟩ :: r) acc) e h ↔ RunVR P ng sp Q K ps all r acc (foot (.binOp op t x y u) e.eval) d (effBin P op t x y (e.eval x) (e.eval y) h.get) e h := rcd_plain rfl rfl
theorem o_un (op : UnOp) (t : TypeId) (x : Operand) : Run P ng sp Q K (.ops all (⟨d, .unOp op t x, ty, p, af, none⟩ :: r)) e h ↔ RunV P ng sp Q K (.ops all r) d (effUn op (e.eval x)) e h := run_plain rfl rfl
theorem q_un (op : UnOp) (t : TypeId) (x : Operand) : Run P ng sp Q K (.rcd ps all (⟨d, .unOp op t x, ty, p, af, none⟩ :: r) acc) e h ↔ RunVR P ng sp Q K ps all r acc (foot (.unOp op t x) e.eval) d (effUn op (e.eval x)) e h := rcd_plain rfl rfl
theorem o_conv (s t : TypeId) (x : Operand) : Run P ng sp Q K (.ops all (⟨d, .convert s t x, ty, p, af, none⟩ :: r)) e h ↔ RunV P ng sp Q K (.ops all r) d (effConv P s t (e.eval x) h.get h.nx) e h := run_plain rfl rfl
theorem q_conv (s t : TypeId) (x : Operand) : Run P ng sp Q K (.rcd ps all (⟨d, .convert s t x, ty, p, af, none⟩ :: r) acc) e h ↔ RunVR P ng sp Q K ps all r acc (foot (.convert s t x) e.eval) d (effConv P s t (e.eval x) h.get h.nx) e h := rcd_plain rfl rfl
theorem o_arrp (t : TypeId) (x : Operand) : Run P ng sp Q K (.ops all (⟨d, .sliceToArrayPointer t x, ty, p, af, none⟩ :: r)) e h ↔ RunV P ng sp Q K (.ops all r) d (effArrPtr P t (e.eval x)) e h := run_plain rfl rfl
theorem q_arrp (t : TypeId) (x : Operand) : Run P ng sp Q K (.rcd ps all (⟨d, .sliceToArrayPointer t x, ty, p, af, none⟩ :: r) acc) e h ↔ RunVR P ng sp Q K ps all r acc (foot (.sliceToArrayPointer t x) e.eval) d (effArrPtr P t (e.eval x)) e h := rcd_plain rfl rfl
theorem o_ifc (t : TypeId) (x : Operand) : Run P ng sp Q K (.ops all (⟨d, .makeInterface t x, ty, p, af, none⟩ :: r)) e h ↔ RunV P ng sp Q K (.ops all r) d (effIface P t (e.eval x)) e h := run_plain rfl rfl
theorem q_ifc (t : TypeId) (x : Operand) : Run P ng sp Q K (.rcd ps all (⟨d, .makeInterface t x, ty, p, af, none⟩ :: r) acc) e h ↔ RunVR P ng sp Q K ps all r acc (foot (.makeInterface t x) e.eval) d (effIface P t (e.eval x)) e h := rcd_plain rfl rfl
theorem o_fun (f : Fn) (a b : Array Operand) : Run P ng sp Q K (.ops all (⟨d, .makeFunc f a b, ty, p, af, none⟩ :: r)) e h ↔ RunV P ng sp Q K (.ops all r) d (ret (.func f (a.map e.eval) (b.map e.eval))) e h := run_plain rfl rfl
theorem q_fun (f : Fn) (a b : Array Operand) : Run P ng sp Q K (.rcd ps all (⟨d, .makeFunc f a b, ty, p, af, none⟩ :: r) acc) e h ↔ RunVR P ng sp Q K ps all r acc (foot (.makeFunc f a b) e.eval) d (ret (.func f (a.map e.eval) (b.map e.eval))) e h := rcd_plain rfl rfl
theorem o_mkm (t : TypeId) : Run P ng sp Q K (.ops all (⟨d, .makeMap t none, ty, p, af, none⟩ :: r)) e h ↔ RunV P ng sp Q K (.ops all r) d (some ⟨.map (some h.nx), [], [.map [] 0]⟩) e h := run_plain rfl rfl
theorem q_mkm (t : TypeId) : Run P ng sp Q K (.rcd ps all (⟨d, .makeMap t none, ty, p, af, none⟩ :: r) acc) e h ↔ RunVR P ng sp Q K ps all r acc (foot (.makeMap t none) e.eval) d (some ⟨.map (some h.nx), [], [.map [] 0]⟩) e h := rcd_plain rfl rfl
theorem o_mks (t : TypeId) (l c : Operand) : Run P ng sp Q K (.ops all (⟨d, .makeSlice t l c, ty, p, af, none⟩ :: r)) e h ↔ RunV P ng sp Q K (.ops all r) d (effMakeSlice P t (e.eval l) (e.eval c) h.nx) e h := run_plain rfl rfl
theorem q_mks (t : TypeId) (l c : Operand) : Run P ng sp Q K (.rcd ps all (⟨d, .makeSlice t l c, ty, p, af, none⟩ :: r) acc) e h ↔ RunVR P ng sp Q K ps all r acc (foot (.makeSlice t l c) e.eval) d (effMakeSlice P t (e.eval l) (e.eval c) h.nx) e h := rcd_plain rfl rfl
theorem o_slice (t : TypeId) (x : Operand) (lo hi mx : Option Operand) : Run P ng sp Q K (.ops all (⟨d, .slice t x lo hi mx, ty, p, af, none⟩ :: r)) e h ↔ RunV P ng sp Q K (.ops all r) d (effSlice P t (e.eval x) (lo.map e.eval) (hi.map e.eval) (mx.map e.eval) h.get) e h := run_plain rfl rfl
theorem q_slice (t : TypeId) (x : Operand) (lo hi mx : Option Operand) : Run P ng sp Q K (.rcd ps all (⟨d, .slice t x lo hi mx, ty, p, af, none⟩ :: r) acc) e h ↔ RunVR P ng sp Q K ps all r acc (foot (.slice t x lo hi mx) e.eval) d (effSlice P t (e.eval x) (lo.map e.eval) (hi.map e.eval) (mx.map e.eval) h.get) e h := rcd_plain rfl rfl
theorem o_fieldAddr (t : TypeId) (x : Operand) (f : Nat) : Run P ng sp Q K (.ops all (⟨d, .fieldAddr t x f, ty, p, af, none⟩ :: r)) e h ↔ RunV P ng sp Q K (.ops all r) d (effField P t (e.eval x) f) e h := run_plain rfl rfl
theorem q_fieldAddr (t : TypeId) (x : Operand) (f : Nat) : Run P ng sp Q K (.rcd ps all (⟨d, .fieldAddr t x f, ty, p, af, none⟩ :: r) acc) e h ↔ RunVR P ng sp Q K ps all r acc (foot (.fieldAddr t x f) e.eval) d (effField P t (e.eval x) f) e h := rcd_plain rfl rfl
theorem o_field (t : TypeId) (x : Operand) (f : Nat) : Run P ng sp Q K (.ops all (⟨d, .field t x f, ty, p, af, none⟩ :: r)) e h ↔ RunV P ng sp Q K (.ops all r) d (effFieldV P t (e.eval x) f) e h := run_plain rfl rfl
theorem q_field (t : TypeId) (x : Operand) (f : Nat) : Run P ng sp Q K (.rcd ps all (⟨d, .field t x f, ty, p, af, none⟩ :: r) acc) e h ↔ RunVR P ng sp Q K ps all r acc (foot (.field t x f) e.eval) d (effFieldV P t (e.eval x) f) e h := rcd_plain rfl rfl
theorem o_indexAddr (t : TypeId) (x i : Operand) : Run P ng sp Q K (.ops all (⟨d, .indexAddr t x i, ty, p, af, none⟩ :: r)) e h ↔ RunV P ng sp Q K (.ops all r) d (effIdx P t (e.eval x) (e.eval i)) e h := run_plain rfl rfl
theorem q_indexAddr (t : TypeId) (x i : Operand) : Run P ng sp Q K (.rcd ps all (⟨d, .indexAddr t x i, ty, p, af, none⟩ :: r) acc) e h ↔ RunVR P ng sp Q K ps all r acc (foot (.indexAddr t x i) e.eval) d (effIdx P t (e.eval x) (e.eval i)) e h := rcd_plain rfl rfl
theorem o_index (t : TypeId) (x i : Operand) : Run P ng sp Q K (.ops all (⟨d, .index t x i, ty, p, af, none⟩ :: r)) e h ↔ RunV P ng sp Q K (.ops all r) d (effIndex P t (e.eval x) (e.eval i)) e h := run_plain rfl rfl
theorem q_index (t : TypeId) (x i : Operand) : Run P ng sp Q K (.rcd ps all (⟨d, .index t x i, ty, p, af, none⟩ :: r) acc) e h ↔ RunVR P ng sp Q K ps all r acc (foot (.index t x i) e.eval) d (effIndex P t (e.eval x) (e.eval i)) e h := rcd_plain rfl rfl
theorem o_lookup (t : TypeId) (m k : Operand) (ok : Bool) : Run P ng sp Q K (.ops all (⟨d, .lookup t m k ok, ty, p, af, none⟩ :: r)) e h ↔ RunV P ng sp Q K (.ops all r) d (effLookup P t (e.eval m) (e.eval k) ok h.get) e h := run_plain rfl rfl
theorem q_lookup (t : TypeId) (m k : Operand) (ok : Bool) : Run P ng sp Q K (.rcd ps all (⟨d, .lookup t m k ok, ty, p, af, none⟩ :: r) acc) e h ↔ RunVR P ng sp Q K ps all r acc (foot (.lookup t m k ok) e.eval) d (effLookup P t (e.eval m) (e.eval k) ok h.get) e h := rcd_plain rfl rfl
theorem o_mapUpdate (t : TypeId) (m k x : Operand) : Run P ng sp Q K (.ops all (⟨d, .mapUpdate t m k x, ty, p, af, none⟩ :: r)) e h ↔ RunV P ng sp Q K (.ops all r) d (effUpdate P t (e.eval m) (e.eval k) (e.eval x) h.get) e h := run_plain rfl rfl
theorem q_mapUpdate (t : TypeId) (m k x : Operand) : Run P ng sp Q K (.rcd ps all (⟨d, .mapUpdate t m k x, ty, p, af, none⟩ :: r) acc) e h ↔ RunVR P ng sp Q K ps all r acc (foot (.mapUpdate t m k x) e.eval) d (effUpdate P t (e.eval m) (e.eval k) (e.eval x) h.get) e h := rcd_plain rfl rfl
theorem o_range (t : TypeId) (x : Operand) : Run P ng sp Q K (.ops all (⟨d, .range t x, ty, p, af, none⟩ :: r)) e h ↔ RunV P ng sp Q K (.ops all r) d (effRange P t (e.eval x) h.get h.nx) e h := run_plain rfl rfl
theorem q_range (t : TypeId) (x : Operand) : Run P ng sp Q K (.rcd ps all (⟨d, .range t x, ty, p, af, none⟩ :: r) acc) e h ↔ RunVR P ng sp Q K ps all r acc (foot (.range t x) e.eval) d (effRange P t (e.eval x) h.get h.nx) e h := rcd_plain rfl rfl
theorem o_next (x : Operand) (s : Bool) : Run P ng sp Q K (.ops all (⟨d, .next x s, ty, p, af, none⟩ :: r)) e h ↔ RunV P ng sp Q K (.ops all r) d (effNext (e.eval x) s h.get) e h := run_plain rfl rfl
theorem q_next (x : Operand) (s : Bool) : Run P ng sp Q K (.rcd ps all (⟨d, .next x s, ty, p, af, none⟩ :: r) acc) e h ↔ RunVR P ng sp Q K ps all r acc (foot (.next x s) e.eval) d (effNext (e.eval x) s h.get) e h := rcd_plain rfl rfl
theorem o_tassert (x : Operand) (t u : TypeId) (ok : Bool) : Run P ng sp Q K (.ops all (⟨d, .typeAssert x t u ok, ty, p, af, none⟩ :: r)) e h ↔ RunV P ng sp Q K (.ops all r) d (effAssert P (e.eval x) u ok) e h := run_plain rfl rfl
theorem q_tassert (x : Operand) (t u : TypeId) (ok : Bool) : Run P ng sp Q K (.rcd ps all (⟨d, .typeAssert x t u ok, ty, p, af, none⟩ :: r) acc) e h ↔ RunVR P ng sp Q K ps all r acc (foot (.typeAssert x t u ok) e.eval) d (effAssert P (e.eval x) u ok) e h := rcd_plain rfl rfl
theorem o_extract (x : Operand) (i : Nat) : Run P ng sp Q K (.ops all (⟨d, .extract x i, ty, p, af, none⟩ :: r)) e h ↔ RunV P ng sp Q K (.ops all r) d (effExtract (e.eval x) i) e h := run_plain rfl rfl
theorem q_extract (x : Operand) (i : Nat) : Run P ng sp Q K (.rcd ps all (⟨d, .extract x i, ty, p, af, none⟩ :: r) acc) e h ↔ RunVR P ng sp Q K ps all r acc (foot (.extract x i) e.eval) d (effExtract (e.eval x) i) e h := rcd_plain rfl rfl
theorem o_builtin (b : Builtin) (as : Array Operand) (ts : Array TypeId) : Run P ng sp Q K (.ops all (⟨d, .call ⟨.builtin b, as, ts⟩, ty, p, af, none⟩ :: r)) e h ↔ RunV P ng sp Q K (.ops all r) d (builtinEff P b ts (as.toList.map e.eval) h.get h.nx) e h := run_plain rfl rfl
theorem q_builtin (b : Builtin) (as : Array Operand) (ts : Array TypeId) : Run P ng sp Q K (.rcd ps all (⟨d, .call ⟨.builtin b, as, ts⟩, ty, p, af, none⟩ :: r) acc) e h ↔ RunVR P ng sp Q K ps all r acc (foot (.call ⟨.builtin b, as, ts⟩) e.eval) d (builtinEff P b ts (as.toList.map e.eval) h.get h.nx) e h := rcd_plain rfl rfl
theorem o_call (f : Operand) (as : Array Operand) (ts : Array TypeId) : Run P ng sp Q K (.ops all (⟨d, .call ⟨.value f, as, ts⟩, ty, p, af, none⟩ :: r)) e h ↔ RunC P ng sp Q K (.ops all r) d true (callee P ⟨.value f, as, ts⟩ e.eval) e h := run_call rfl rfl rfl
theorem o_invoke (f : Operand) (m : String) (as : Array Operand) (ts : Array TypeId) : Run P ng sp Q K (.ops all (⟨d, .call ⟨.invoke f m, as, ts⟩, ty, p, af, none⟩ :: r)) e h ↔ RunC P ng sp Q K (.ops all r) d true (callee P ⟨.invoke f m, as, ts⟩ e.eval) e h := run_call rfl rfl rfl
theorem q_callv (f : Operand) (as : Array Operand) (ts : Array TypeId) : Run P ng sp Q K (.rcd ps all (⟨d, .call ⟨.value f, as, ts⟩, ty, p, af, none⟩ :: r) acc) e h ↔ RunCR P ng sp Q K ps all r acc d (callee P ⟨.value f, as, ts⟩ e.eval) e h := rcd_call rfl rfl rfl
theorem q_invoke (f : Operand) (m : String) (as : Array Operand) (ts : Array TypeId) : Run P ng sp Q K (.rcd ps all (⟨d, .call ⟨.invoke f m, as, ts⟩, ty, p, af, none⟩ :: r) acc) e h ↔ RunCR P ng sp Q K ps all r acc d (callee P ⟨.invoke f m, as, ts⟩ e.eval) e h := rcd_call rfl rfl rfl
section
variable (g : Nat → Option Blk) (nx : Nat)
theorem b_len (ts : Array TypeId) (x : Value) : builtinEff P .len ts [x] g nx = aLen P ts x g := rfl
theorem b_append (ts : Array TypeId) (x y : Value) : builtinEff P .append ts [x, y] g nx = aAppend P ts x y g nx := rfl
theorem b_copy (ts : Array TypeId) (x y : Value) : builtinEff P .copy ts [x, y] g nx = aCopy P ts x y g := rfl
theorem b_clear (ts : Array TypeId) (x : Value) : builtinEff P .clear ts [x] g nx = aClear P ts x g := rfl
theorem b_delete (ts : Array TypeId) (x y : Value) : builtinEff P .delete ts [x, y] g nx = aDelete P ts x y g := rfl
end
end Go.AM
end
section
/- Words and their bits. Conditions: the numbers fit. -/
namespace Go.AM
end Go.AM
end
section
/- More rules for rewriting: built values, results in cells, regions without open pairs, slices of interfaces' methods. No condition. -/
namespace Go.AM
variable {P : Program} {ng : Nat} {sp : Special} {Q : AExit → Env → Heap → Prop}
def bldOf (P : Program) (t : TypeId) : Option (List Value × List (Nat × Nat)) := match P.underlying t, zeroL P t with
  | some (.struct fields), some z => if fields.toList.all fun f => (sizeOf? P f.type).isSome then some (z, fields.toList.map fun f => (f.offset, (sizeOf? P f.type).getD 0)) else none
  | some (.array _ e), some z => match sizeOf? P e with
    | some s => some (z, (List.range (z.length / s)).map fun i => (i * s, s))
    | none => none
  | _, _ => none
theorem fillL_congr {p q : Nat → Option (Nat × Nat)} : ∀ (parts : List (Nat × Value)) (cs : List Value), (∀ x ∈ parts, p x.1 = q x.1) → fillL p cs parts = fillL q cs parts := by
  intro parts
  induction parts with
  | nil => intro cs _; rfl
  | cons x r ih =>
    intro cs hx
    obtain ⟨i, v⟩ := x
    rw [fillL, fillL, hx (i, v) (List.mem_cons_self ..)]
    cases q i with
    | none => rfl
    | some y =>
      cases cellsOf v with
      | none => rfl
      | some vs => simp only; rw [ih _ fun x hx' => hx x (List.mem_cons_of_mem _ hx')]
theorem u_build {t : TypeId} {z : List Value} {fs : List (Nat × Nat)} (hb : bldOf P t = some (z, fs)) (parts : List (Nat × Value)) (hp : ∀ x ∈ parts, x.1 < fs.length) : aBuild P t parts = fillL (fun i => fs[i]?) z parts := by
  unfold aBuild
  unfold bldOf at hb
  cases hu : P.underlying t with
  | none => rw [hu] at hb; simp at hb
  | some d =>
    cases hz : zeroL P t with
    | none => rw [hu, hz] at hb; cases d <;> simp at hb
    | some z' =>
      rw [hu, hz] at hb
      cases d <;> first | (simp at hb; done) | skip
      · rename_i n e
        simp only at hb ⊢
        cases hs : sizeOf? P e with
        | none => rw [hs] at hb; simp at hb
        | some s =>
          rw [hs] at hb
          simp only [Option.some.injEq, Prod.mk.injEq] at hb
          obtain ⟨rfl, rfl⟩ := hb
          simp only
          refine fillL_congr parts _ fun x hx => ?_
          have := hp x hx
          rw [List.length_map, List.length_range] at this
          simp [this]
      · rename_i fields
        simp only at hb ⊢
        split at hb
        · rename_i hall
          simp only [Option.some.injEq, Prod.mk.injEq] at hb
          obtain ⟨rfl, rfl⟩ := hb
          rw [if_pos hall]
          refine fillL_congr parts _ fun x hx => ?_
          simp only [List.getElem?_map]
          cases hf : fields.toList[x.1]? with
          | none => rfl
          | some f =>
            simp only [Option.map_some]
            have := List.all_eq_true.1 hall f (List.mem_of_getElem? hf)
            obtain ⟨s, hs⟩ := Option.isSome_iff_exists.1 this
            rw [hs]; rfl
        · cases hb
def aBuildO (P : Program) (t : TypeId) (parts : List (Nat × Value)) : Option (List Value) := aBuild P t parts
theorem u_build' {t : TypeId} {z : List Value} {fs : List (Nat × Nat)} (hb : bldOf P t = some (z, fs)) (parts : List (Nat × Value)) : aBuild P t parts = if parts.all (fun x => Nat.blt x.1 fs.length) = true then fillL (fun i => fs[i]?) z parts else aBuildO P t parts := by
  split
  · rename_i h
    exact u_build hb parts fun x hx => by have := List.all_eq_true.1 h x hx; simpa [Nat.blt_eq] using this
  · rfl
theorem fillL_nil (p : Nat → Option (Nat × Nat)) (cs : List Value) : fillL p cs [] = some cs := rfl
def fillX (p : Nat → Option (Nat × Nat)) (cs : List Value) (r : List (Nat × Value)) (x : Option (Nat × Nat)) (vs : Option (List Value)) : Option (List Value) := match x, vs with
  | some (off, size), some vs => if vs.length = size ∧ off + size ≤ cs.length then fillL p (overL cs off vs) r else none
  | _, _ => none
theorem fillL_cons (p : Nat → Option (Nat × Nat)) (cs : List Value) (i : Nat) (v : Value) (r : List (Nat × Value)) : fillL p cs ((i, v) :: r) = fillX p cs r (p i) (cellsOf v) := rfl
theorem fillX_some (p : Nat → Option (Nat × Nat)) (cs : List Value) (r : List (Nat × Value)) (off size : Nat) (vs : List Value) : fillX p cs r (some (off, size)) (some vs) = if vs.length = size ∧ off + size ≤ cs.length then fillL p (overL cs off vs) r else none := rfl
theorem ret_val (v : Value) : (ret v).map (·.val) = some v := rfl
theorem resultV_cell (e : Env) (h : Heap) (a : Tmp) (t : TypeId) : resultV P e h [.cell a t] = (effLoad P t (e.at a) h.get).map (·.val) := by
  unfold resultV resOne
  simp only
  cases effLoad P t (e.at a) h.get <;> rfl
theorem resAll_cell (e : Env) (h : Heap) (a : Tmp) (t : TypeId) (l : List ResultVar) : resAll P e h (.cell a t :: l) = ((effLoad P t (e.at a) h.get).map (·.val)).bind fun v => (resAll P e h l).map fun vs => v :: vs := by
  rw [resAll]
  unfold resOne
  simp only
  cases effLoad P t (e.at a) h.get <;> cases resAll P e h l <;> rfl
theorem didsOk_nil (l : List Did) : didsOk [] l = true := rfl
theorem bind_some_agg (l : List Value) : (some l).bind (fun a => ret (.agg a.toArray)) = ret (.agg l.toArray) := rfl
end Go.AM
end
section
/- Loops and joins: what a piece of code reaches is told once, and used behind it. No condition. -/
namespace Go.AM
variable {P : Program} {ng : Nat} {sp : Special} {Q : AExit → Env → Heap → Prop}
theorem Run.over {Q' : AExit → Env → Heap → Prop} {K0 K : List Frm} {x : Ctl} {e : Env} {h : Heap} (hr : Run P ng sp Q' K0 x e h) (hk : ∀ ex e h, Q' ex e h → Run P ng sp Q K (.exit ex) e h) : Run P ng sp Q (K0 ++ K) x e h := by
  induction hr with
  | done hq => exact hk _ _ _ hq
  | skip _ ih => exact .skip ih
  | label _ ih => exact .label ih
  | ret _ ih => exact .ret ih
  | goto _ ih => exact .goto ih
  | leave _ ih => exact .leave ih
  | seq _ ih => exact .seq ih
  | cond h1 _ ih => exact .cond h1 ih
  | block _ ih => exact .block ih
  | loop h1 _ ih => exact .loop h1 ih
  | scope _ ih => exact .scope ih
  | region _ ih => exact .region ih
  | draw h1 h2 _ ih => exact .draw h1 h2 ih
  | xseq _ ih => exact .xseq ih
  | xseq' h1 _ ih => exact .xseq' h1 ih
  | xblk _ ih => exact .xblk ih
  | xblk' h1 _ ih => exact .xblk' h1 ih
  | xagain _ ih => exact .xagain ih
  | xagain' h1 _ ih => exact .xagain' h1 ih
  | xscope h1 _ ih => exact .xscope h1 ih
  | xscope' h1 _ ih => exact .xscope' h1 ih
  | onil _ ih => exact .onil ih
  | oskip h1 h2 _ ih => exact .oskip h1 h2 ih
  | oeff h1 h2 h3 h4 _ ih => exact .oeff h1 h2 h3 h4 ih
  | ocall h1 h2 h3 h4 h5 h6 _ ih => exact .ocall h1 h2 h3 h4 h5 h6 ih
  | ocallp h1 h2 h3 h4 h5 h6 _ ih => exact .ocallp h1 h2 h3 h4 h5 h6 ih
  | opanic h1 h2 h3 h4 _ ih => exact .opanic h1 h2 h3 h4 ih
  | rnil h1 _ ih => exact .rnil h1 ih
  | rskip h1 h2 _ ih => exact .rskip h1 h2 ih
  | reff h1 h2 h3 h4 _ ih => exact .reff h1 h2 h3 h4 ih
  | rcall h1 h2 h3 h4 h5 h6 _ ih => exact .rcall h1 h2 h3 h4 h5 h6 ih
theorem run_loop2 {K : List Frm} {body : Code} (hm : (mapLoopOf body).isNone = true) (I : Nat → Env → Heap → Prop) (J : AExit → Env → Heap → Prop)
    (step : ∀ n e h, I n e h → ∀ Q' : AExit → Env → Heap → Prop, (∀ n' e' h', n' < n → I n' e' h' → Q' .normal e' h') → (∀ ex e' h', ex ≠ .normal → J ex e' h' → Q' ex e' h') → Run P ng sp Q' [] (.code body) e h)
    (n : Nat) (e : Env) (h : Heap) (hi : I n e h) (after : ∀ ex e' h', ex ≠ .normal → J ex e' h' → Run P ng sp Q K (.exit ex) e' h') : Run P ng sp Q K (.code (.loop body)) e h := by
  refine run_loop hm I (fun n e h hi ih => ?_) n e h hi
  refine (step n e h hi (fun ex e' h' => (ex = .normal ∧ ∃ n', n' < n ∧ I n' e' h') ∨ (ex ≠ .normal ∧ J ex e' h')) (fun n' e' h' h1 h2 => .inl ⟨rfl, n', h1, h2⟩) (fun ex e' h' h1 h2 => .inr ⟨h1, h2⟩)).over ?_
  rintro ex e' h' (⟨rfl, n', h1, h2⟩ | ⟨h1, h2⟩)
  · exact .xagain (ih n' e' h' h1 h2)
  · exact .xagain' h1 (after ex e' h' h1 h2)
end Go.AM
end
section
/- What was done in a region whose order is open, laid out for rewriting; appends to nothing. No condition but those named. -/
namespace Go.AM
variable {P : Program}
section
variable (ρ : Operand → Value)
theorem foot_load (t : TypeId) (a : Operand) : foot (.load t a) ρ = blkOf (ρ a) := by
  show [a].flatMap (fun x => blkOf (ρ x)) = _
  simp
theorem foot_store (t : TypeId) (a x : Operand) : foot (.store t a x) ρ = blkOf (ρ a) ++ blkOf (ρ x) := by
  show [a, x].flatMap (fun x => blkOf (ρ x)) = _
  simp
theorem foot_conv (s t : TypeId) (x : Operand) : foot (.convert s t x) ρ = blkOf (ρ x) := by
  show [x].flatMap (fun x => blkOf (ρ x)) = _
  simp
theorem foot_bin (op : BinOp) (t : TypeId) (x y : Operand) (u : TypeId) : foot (.binOp op t x y u) ρ = blkOf (ρ x) ++ blkOf (ρ y) := by
  show [x, y].flatMap (fun x => blkOf (ρ x)) = _
  simp
theorem foot_slice (t : TypeId) (x : Operand) : foot (.slice t x none none none) ρ = blkOf (ρ x) := by
  show [x].flatMap (fun x => blkOf (ρ x)) = _
  simp
theorem foot_build (t : TypeId) (qs : Array (Nat × Operand)) : foot (.build t qs) ρ = [] := rfl
theorem foot_mks (t : TypeId) (a b : Operand) : foot (.makeSlice t a b) ρ = [] := rfl
theorem foot_alloc (t : TypeId) : foot (.alloc t) ρ = [] := rfl
theorem foot_box (t : TypeId) (x : Operand) : foot (.box t x) ρ = [] := rfl
theorem foot_buildSlice (t : TypeId) (n : Nat) (qs : Array (Nat × Operand)) : foot (.buildSlice t n qs) ρ = [] := rfl
theorem foot_lookup (t : TypeId) (m k : Operand) (ok : Bool) : foot (.lookup t m k ok) ρ = blkOf (ρ m) ++ blkOf (ρ k) := by
  show [m, k].flatMap (fun x => blkOf (ρ x)) = _
  simp
end
theorem blkOf_ptr (b o : Nat) (s : Option _) : blkOf (.pointer (some ⟨b, o, s⟩)) = [b] := rfl
theorem blkOf_ptrn : blkOf (.pointer none) = [] := rfl
theorem blkOf_slice (b o l c : Nat) (s : Option _) : blkOf (.slice (some ⟨b, o, s⟩) l c) = [b] := rfl
theorem blkOf_slicen (l c : Nat) : blkOf (.slice none l c) = [] := rfl
theorem blkOf_int (k : IntKind) (n : Int) : blkOf (.int k n) = [] := rfl
theorem blkOf_bool (b : Bool) : blkOf (.bool b) = [] := rfl
theorem blkOf_string (s : ByteArray) : blkOf (.string s) = [] := rfl
noncomputable def pairOk (x y : Option Did) : Bool := match x, y with
  | some x, some y => swapOk x y
  | _, _ => true
theorem didsOk_cons (p : Nat × Nat) (ps : List (Nat × Nat)) (l : List Did) : didsOk (p :: ps) l = (pairOk l[p.1]? l[p.2]? && didsOk ps l) := rfl
theorem pairOk_some (x y : Did) : pairOk (some x) (some y) = swapOk x y := rfl
theorem swap_skip (y : Did) : swapOk .skip y = true := rfl
theorem swap_skip' (x : Did) : swapOk x .skip = true := by cases x <;> rfl
theorem swap_ee (r r' : List Nat) (f f' : Eff) (n n' : Nat) : swapOk (.eff r f n) (.eff r' f' n') = (disj (f.wr.map (·.1) ++ newIds n f.nw) (r' ++ (f'.wr.map (·.1) ++ newIds n' f'.nw)) && disj r (f'.wr.map (·.1) ++ newIds n' f'.nw)) := rfl
theorem swap_ce (r : List Nat) (f : Eff) (n : Nat) (h h' : Heap) : swapOk (.call h h') (.eff r f n) = (f.wr.isEmpty && r.all fun b => sameB (h.get b) (h'.get b)) := rfl
theorem swap_ec (r : List Nat) (f : Eff) (n : Nat) (h h' : Heap) : swapOk (.eff r f n) (.call h h') = (f.wr.isEmpty && f.nw.isEmpty && r.all fun b => sameB (h.get b) (h'.get b)) := rfl
theorem sameB_self (x : Option Blk) : sameB x x = true := sameB_of rfl
theorem newIds_nil (n : Nat) : newIds n [] = [] := rfl
theorem newIds_cons (n : Nat) (b : Blk) (r : List Blk) : newIds n (b :: r) = n :: newIds (n + 1) r := rfl
theorem disj_nil (b : List Nat) : disj [] b = true := rfl
theorem disj_nil' (a : List Nat) : disj a [] = true := by unfold disj; simp
theorem disj_cons (x : Nat) (a b : List Nat) : disj (x :: a) b = (!(b.any fun y => Nat.beq x y) && disj a b) := rfl
theorem Heap.get_new_at {h : Heap} (x : Blk) {b : Nat} (hb : b ≤ h.nx ∧ h.nx ≤ b) : (h.new x).get b = some x := by rw [Nat.le_antisymm hb.1 hb.2, Heap.get_new_same]
theorem overL_cs (x : Value) (l : List Value) (n : Nat) (vs : List Value) : overL (x :: l) (n + 1) vs = x :: overL l n vs := by
  unfold overL
  rw [List.take_succ_cons, show n + 1 + vs.length = (n + vs.length) + 1 by omega, List.drop_succ_cons]
  rfl
theorem overL_cz (x : Value) (l : List Value) (v : Value) (vs : List Value) : overL (x :: l) 0 (v :: vs) = v :: overL l 0 vs := by
  unfold overL
  simp only [List.take_zero, List.nil_append, List.length_cons, Nat.zero_add]
  rw [List.drop_succ_cons]
  rfl
end Go.AM
end
