/- Ranging over maps: the loop. -/
import Derived.Test.YtkkdpbicppdglaaGreatDoorAmMap1
namespace Go.AM
variable {P : Program} {ng nt : Nat}

theorem ERel.mem {m : Mp} : ∀ {es : List (Value × Value × Nat)} {ces : List MapEntry}, ERel m es ces → ∀ ce ∈ ces, ∃ x ∈ es, x.1 = ce.key ∧ simpleKey x.1 = true ∧ VRel m x.2.1 ce.val ∧ x.2.2 = ce.born
  | [], [], _, ce, h => by simp at h
  | x :: r, y :: s, ⟨h1, h2⟩, ce, h => by
    rcases List.mem_cons.1 h with rfl | h
    · exact ⟨x, by simp, h1⟩
    · obtain ⟨z, hz, h3⟩ := ERel.mem h2 ce h
      exact ⟨z, by simp [hz], h3⟩
  | [], _ :: _, h, _, _ => h.elim
  | _ :: _, [], h, _, _ => h.elim
theorem ERel.mem' {m : Mp} : ∀ {es : List (Value × Value × Nat)} {ces : List MapEntry}, ERel m es ces → ∀ x ∈ es, ∃ ce ∈ ces, x.2.2 = ce.born
  | [], [], _, x, h => by simp at h
  | y :: r, z :: s, ⟨h1, h2⟩, x, h => by
    rcases List.mem_cons.1 h with rfl | h
    · exact ⟨z, by simp, h1.2.2.2⟩
    · obtain ⟨c, hc, h3⟩ := ERel.mem' h2 x h
      exact ⟨c, by simp [hc], h3⟩
  | [], _ :: _, h, _, _ => h.elim
  | _ :: _, [], h, _, _ => h.elim
theorem simple_rel {m : Mp} {k : Value} (h : simpleKey k = true) : VRel m k k := by
  cases k <;> first | exact .bool _ | exact .int _ _ | exact .string _ | (simp [simpleKey] at h)

theorem wpOps_step {ops : Array Oper} {Q : Exit → Act → World → Prop} {i : Nat} {rest : List Nat} {a : Act} {w : World} {o : Oper} (ho : ops[i]? = some o) (hw : Region.wanted o (yielded ops a.tmps) = true) (h : o.wp P a w (wpOps P ops Q rest) Q) : wpOps P ops Q (i :: rest) a w := by
  simp only [wpOps, ho]
  rw [if_pos hw]
  exact .inl h
theorem op_value {o : Oper} {a : Act} {w w' : World} {v : Value} {K : Act → World → Prop} {Q : Exit → Act → World → Prop} (h : (execOp a.eval o).run P w = .ok (.value v) w') (hK : K (a.put o.dst v) w') : o.wp P a w K Q := by
  unfold Oper.wp
  rw [h]
  exact hK

/-- One round of a loop over a map: what comes out of the iterator, whichever it is; then c2. -/
theorem mapStep_wp {id : Nat} {nx ex : Oper} {it tup okT : Tmp} {c2 : Code} (hnx : nx.op = .next (.tmp it) false) (hnd : nx.dst = some tup) (hng : nx.guard = none) (hex : ex.op = .extract (.tmp tup) 0) (hed : ex.dst = some okT) (heg : ex.guard = none)
    (ok1 : opersOk ng nt nx = true) (ok2 : opersOk ng nt ex = true) {d r since last clk : Nat} {seen : List Nat} {cur : Option Nat} {es : List (Value × Value × Nat)} {e : Env} {h : Heap}
    (hwf : HWf h) (hit : e.at it = .pointer (some ⟨d, 0, none⟩)) (hsl : since ≤ last) (hd : h.get d = some (.iter r since seen cur last)) (hmap : h.get r = some (.map es clk)) (hold : ∀ x ∈ es, x.2.2 < since)
    {N : Nat} {F : Nat → Option Blk} {m : Mp} {w : World} {a : Act} {Q : Exit → Act → World → Prop} (hN0 : h.nx ≤ N) (hh : HRel m (mix h N F) w) (hg : GlobOk ng m) (hr : ARel m e.at a nt)
    (hstep : ∀ x ∈ es, x.2.2 ∉ seen → ∀ m' w' a', HRel m' (mix (stepIt h d r since seen x.2.2 clk) N F) w' → Step m w m' w' → ARel m' ((e.put (some tup) (.tuple #[.bool true, x.1, x.2.1])).put (some okT) (.bool true)).at a' nt → c2.wp P Q a' w')
    (hend : (∀ x ∈ es, x.2.2 ∈ seen) → ∀ m' w' a', HRel m' (mix h N F) w' → Step m w m' w' → ARel m' ((e.put (some tup) (.tuple #[.bool false])).put (some okT) (.bool false)).at a' nt → c2.wp P Q a' w') :
    (Code.seq (.region id #[nx, ex] false) c2).wp P Q a w := by
  have h1 := hh.at hwf hN0 hd
  obtain ⟨l2, hm2, hrw2, ces, q1, q2⟩ := hh.map hwf hN0 hmap
  cases hm : m d with
  | fresh => rw [hm] at h1; exact h1.elim
  | dead => rw [hm] at h1; exact h1.elim
  | sym k n => rw [hm] at h1; exact h1.elim
  | live l =>
  rw [hm] at h1
  obtain ⟨⟨hrw, hsh⟩, cbm, sa, p1, p2, p3, p4⟩ := h1
  have hcb : l2.cb = cbm := by
    rcases p2 with p2 | ⟨lr, p2, p3⟩
    · rw [hm2] at p2; cases p2
    · rw [hm2] at p2; cases p2; exact p3
  subst hcb
  have hv := hr.tm it
  rw [hit] at hv
  have hptr := ptr_live hv hm
  rw [hsh] at hptr
  refine wp_seq (wp_region ?_)
  have hr2 : List.range (#[nx, ex] : Array Oper).size = [0, 1] := rfl
  rw [hr2]
  have hev : a.eval (.tmp it) = .pointer (some ⟨l.cb, 0 + 0, none⟩) := hptr
  have hw0 : Region.wanted nx (yielded #[nx, ex] a.tmps) = true := by simp [Region.wanted, hng]
  refine wpOps_step (o := nx) rfl hw0 ?_
  have hq : ∀ ce ∈ ces.toList, ce.born < since := fun ce hce => by
    obtain ⟨x, hx, _, _, _, e4⟩ := q2.mem ce hce
    rw [← e4]; exact hold x hx
  have rest : ∀ (m' : Mp) (w' : World) (hX : Heap) (tv tv' : Value) (b : Bool) (tl : List Value), Step m w m' w' → hX.nx ≤ N → HWf hX → HRel m' (mix hX N F) w' → VRel m' tv tv' → tv = .tuple (.bool b :: tl).toArray →
      (∀ m2 w2 a2, HRel m2 (mix hX N F) w2 → Step m w m2 w2 → ARel m2 ((e.put (some tup) tv).put (some okT) (.bool b)).at a2 nt → c2.wp P Q a2 w2) →
      wpOps P #[nx, ex] (Exit.then (c2.wp P Q) Q) [1] (a.put nx.dst tv') w' := by
    intro m' w' hX tv tv' b tl hst hXN hXwf hX1 htv htb hk
    have hr' : ARel m' (e.put (some tup) tv).at (a.put nx.dst tv') nt := by
      rw [Env.put_at, hnd]
      exact (hr.mono hst.ext).put htv (fun t ht => by cases ht; exact dst_lt ok1 _ hnd)
    have hw1 : Region.wanted ex (yielded #[nx, ex] (a.put nx.dst tv').tmps) = true := by simp [Region.wanted, heg]
    refine wpOps_step (o := ex) rfl hw1 ?_
    have heff : eff P ex.op (evalF (e.put (some tup) tv).at) hX.get hX.nx = some ⟨.bool b, [], []⟩ := by
      rw [hex, ← Env.eval_eq]
      have : (e.put (some tup) tv).eval (.tmp tup) = tv := by
        rw [Env.eval_eq]
        show (e.put (some tup) tv).at tup = tv
        rw [Env.put_at]; simp [putF]
      simp only [eff, effExtract]
      rw [this, htb]
      rfl
    refine eff_upon (F := F) (N := N) (f := ⟨.bool b, [], []⟩) hX1 hXwf hXN hXN hr' (hg.mono hst.ext) ok2 heff ?_
    intro m2 w2 a2 g1 g2 g3
    have g1 : HRel m2 (mix hX N F) w2 := g1
    refine hk m2 w2 a2 g1 (hst.trans g2) ?_
    rw [Env.put_at]
    rw [hed] at g3
    exact g3
  rcases next_run (P := P) nx.type p1 q1 hq hsl with ⟨hall, hrun⟩ | ⟨ce, hce, hns, dd, hrun⟩
  · refine op_value (w' := w) (v := .tuple #[.bool false]) (by simp only [execOp, hnx, hev, Sem.run_bind, Nat.zero_add, hrun, Result.andThen_ok, Sem.run_pure]) ?_
    have hall' : ∀ x ∈ es, x.2.2 ∈ seen := fun x hx => by
      obtain ⟨ce, hce, e4⟩ := q2.mem' x hx
      rw [e4]
      exact (p3 _).1 (hall ce hce)
    exact rest m w h (.tuple #[.bool false]) (.tuple #[.bool false]) false [] (.refl m w) hN0 hwf hh (.tuple _ _ (.cons _ _ _ _ (.bool _) .nil)) rfl (hend hall')
  · refine op_value (w' := { w with heap := w.heap.setIfInBounds l.cb (.mapIter (some l2.cb) since (sa.push ce.born) clk), drawn := dd }) (v := .tuple #[.bool true, ce.key, ce.val]) (by simp only [execOp, hnx, hev, Sem.run_bind, Nat.zero_add, hrun, Result.andThen_ok, Sem.run_pure]) ?_
    obtain ⟨x, hx, e1, e2, e3, e4⟩ := q2.mem ce hce
    have hns' : x.2.2 ∉ seen := by rw [e4]; exact fun h => hns ((p3 _).2 h)
    have hlt : l.cb < w.heap.size := hh.lt hm
    have hb : BRel m { w with heap := w.heap.setIfInBounds l.cb (.mapIter (some l2.cb) since (sa.push ce.born) clk) } (.live l) (some (.iter r since (seen ++ [x.2.2]) (some x.2.2) clk)) := by
      refine ⟨⟨hrw, hsh⟩, l2.cb, sa.push ce.born, by simp [hlt], .inr ⟨l2, hm2, rfl⟩, fun y => ?_, fun b hb => ?_⟩
      · rw [Array.toList_push, List.mem_append, List.mem_append, p3, e4]
      · cases hb; rw [Array.back?_push, e4]
    obtain ⟨r1, r2⟩ := wr_rel (v := undef) hh (lt_of_get hwf hN0 hd) hm hrw hb
    have hwf2 : HWf (stepIt h d r since seen x.2.2 clk) := (HWf.apply hwf (.inr ⟨d, _, rfl, by rw [hd]; simp⟩)).1
    exact rest m _ (stepIt h d r since seen x.2.2 clk) (.tuple #[.bool true, x.1, x.2.1]) (.tuple #[.bool true, ce.key, ce.val]) true [x.1, x.2.1] (r2.trans (.drew (d := dd))) hN0 hwf2 (r1.drew dd)
      (.tuple _ _ (.cons _ _ _ _ (.bool _) (.cons _ _ _ _ (e1 ▸ simple_rel e2) (.cons _ _ _ _ e3 .nil)))) rfl (hstep x hx hns')
end Go.AM
