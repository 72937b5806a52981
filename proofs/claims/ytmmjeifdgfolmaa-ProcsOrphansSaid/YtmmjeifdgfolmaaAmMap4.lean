/- Loops over maps: that all orders are looked at. -/
import Derived.Test.YtmmjeifdgfolmaaAmMap3
import Derived.LoopN
namespace Go.AM
variable {P : Program} {ng nt : Nat} {cl : Caller}

theorem mem_insN (b x : Nat) : ∀ l : List Nat, x ∈ insN b l ↔ x = b ∨ x ∈ l
  | [] => by simp [insN]
  | y :: r => by
    cases hb : Nat.ble b y with
    | true => simp [insN, hb]
    | false =>
      have : insN b (y :: r) = y :: insN b r := by simp [insN, hb]
      rw [this, List.mem_cons, mem_insN b x r, List.mem_cons]
      constructor
      · rintro (h | h | h) <;> simp [h]
      · rintro (h | h | h) <;> simp [h]

theorem restIt_ok {e : Env} {h : Heap} {d : Nat} {s : St} (hs : restIt e h d = some s) (hwf : HWf h) :
    HWf s.2.2 ∧ s.2.2.nx = h.nx ∧ s.2.1 = e ∧ ∀ (N : Nat) (F : Nat → Option Blk) (m : Mp) (w : World), h.nx ≤ N → HRel m (mix h N F) w → HRel m (mix s.2.2 N F) w := by
  unfold restIt at hs
  split at hs <;> try (simp at hs; done)
  rename_i r since seen b last hd
  simp only [Option.some.injEq] at hs
  subst hs
  have hlt : d < h.nx := by
    rcases Nat.lt_or_ge d h.nx with h' | h'
    · exact h'
    · rw [hwf d h'] at hd; cases hd
  refine ⟨fun b hb => ?_, rfl, rfl, fun N F m w hN hh => ⟨fun b' => ?_, hh.inj⟩⟩
  · have hb' : h.nx ≤ b := hb
    show (h.t.set d _).get b = none
    rw [Trie.get_set, if_neg (by omega)]
    exact hwf b hb'
  · by_cases e : b' = d
    · subst e
      have h1 := hh.at hwf hN hd
      rw [mix_lt _ _ (show b' < N by omega)]
      show BRel m w (m b') ((h.t.set b' _).get b')
      rw [Trie.get_set_same]
      cases hm : m b' with
      | fresh => rw [hm] at h1; exact h1.elim
      | dead => rw [hm] at h1; exact h1.elim
      | sym k n => rw [hm] at h1; exact h1.elim
      | live l =>
        rw [hm] at h1
        obtain ⟨h2, cbm, sa, p1, p2, p3, p4⟩ := h1
        refine ⟨h2, cbm, sa, p1, p2, fun x => ?_, fun b hb => by cases hb⟩
        have hbs : b ∈ seen := (p3 b).1 (by
          have := p4 b rfl
          rw [Array.back?_eq_getElem?] at this
          exact Array.mem_toList_iff.2 (Array.mem_of_getElem? this))
        rw [mem_insN, List.mem_filter, p3]
        constructor
        · intro hx
          by_cases e : x = b
          · exact .inl e
          · exact .inr ⟨hx, by
              have : Nat.beq x b = false := by rw [← Bool.not_eq_true, Nat.beq_eq]; exact e
              rw [this]; rfl⟩
        · rintro (hx | hx)
          · exact hx ▸ hbs
          · exact hx.1
    · have h1 := hh.blk b'
      unfold mix at h1 ⊢
      split
      · rename_i hb
        rw [if_pos hb] at h1
        show BRel m w (m b') ((h.t.set d _).get b')
        rw [Trie.get_set_ne _ _ e]
        exact h1
      · rename_i hb
        rw [if_neg hb] at h1
        exact h1

theorem beqH_ok {a b : Heap} (h : beqH a b = true) : a = b := by
  simp only [beqH, Bool.and_eq_true] at h
  obtain ⟨t, n⟩ := a
  obtain ⟨t', n'⟩ := b
  have h1 : n = n' := Nat.eq_of_beq_eq_true h.1
  have h2 : t = t' := beqTB_eq _ _ h.2
  rw [h1, h2]
theorem covered_ok {l : List St} {s : St} (h : covered l s = true) : ∃ t ∈ l, s.2.2 = t.2.2 ∧ leT s.2.1 t.2.1 = true := by
  unfold covered at h
  rw [List.any_eq_true] at h
  obtain ⟨t, ht, h⟩ := h
  simp only [beqSt, Bool.and_eq_true] at h
  exact ⟨t, ht, beqH_ok h.1.2, h.2⟩

theorem expandGo_ok {eng : Code → Env → Heap → Res} {tup okT : Tmp} {c2 : Code} {e : Env} {h : Heap} {d r since : Nat} {seen : List Nat} {clk : Nat} : ∀ {l : List (Value × Value × Nat)} {ca : List St}, expandGo eng tup okT c2 e h d r since seen clk l = some ca →
    (ca = [] → l = []) ∧ ∀ x ∈ l, ∃ e1 h1 s1, eng c2 ((e.put (some tup) (.tuple #[.bool true, x.1, x.2.1])).put (some okT) (.bool true)) (stepIt h d r since seen x.2.2 clk) = some (.normal, e1, h1) ∧ restIt e1 h1 d = some s1 ∧ s1 ∈ ca
  | [], ca, hx => ⟨fun _ => rfl, fun x hx => by simp at hx⟩
  | x :: l, ca, hx => by
    rw [expandGo] at hx
    split at hx <;> try (simp at hx; done)
    rename_i e1 h1 he
    split at hx <;> try (simp at hx; done)
    rename_i s1 hs
    split at hx <;> try (simp at hx; done)
    rename_i l1 hl
    simp only [Option.some.injEq] at hx
    subst hx
    refine ⟨fun h => by simp at h, fun y hy => ?_⟩
    rcases List.mem_cons.1 hy with rfl | hy
    · exact ⟨e1, h1, s1, he, hs, by simp⟩
    · obtain ⟨a1, a2, a3, b1, b2, b3⟩ := (expandGo_ok hl).2 y hy
      exact ⟨a1, a2, a3, b1, b2, by simp [b3]⟩
theorem expandGo_nil {eng : Code → Env → Heap → Res} {tup okT : Tmp} {c2 : Code} {e : Env} {h : Heap} {d r since : Nat} {seen : List Nat} {clk : Nat} {l : List (Value × Value × Nat)} (hx : expandGo eng tup okT c2 e h d r since seen clk l = some []) : l = [] := (expandGo_ok hx).1 rfl
theorem expand_ok {eng : Code → Env → Heap → Res} {it tup okT : Tmp} {c2 : Code} {s : St} {ca : List St} (hx : expand eng it tup okT c2 s = some ca) :
    ∃ d r since seen cur last es clk, s.2.1.at it = .pointer (some ⟨d, 0, none⟩) ∧ s.2.2.get d = some (.iter r since seen cur last) ∧ s.2.2.get r = some (.map es clk) ∧ since ≤ last ∧ (∀ x ∈ es, x.2.2 < since) ∧
      expandGo eng tup okT c2 s.2.1 s.2.2 d r since seen clk (es.filter fun x => !(seen.any fun y => Nat.beq x.2.2 y)) = some ca := by
  unfold expand at hx
  split at hx <;> try (simp at hx; done)
  rename_i d hit
  split at hx <;> try (simp at hx; done)
  rename_i r since seen cur last hd
  split at hx <;> try (simp at hx; done)
  rename_i es clk hm
  cases hc : (Nat.ble since last && es.all (fun x => Nat.blt x.2.2 since)) with
  | false => rw [hc] at hx; simp at hx
  | true =>
    rw [hc] at hx
    simp only [Bool.and_eq_true, List.all_eq_true] at hc
    exact ⟨d, r, since, seen, cur, last, es, clk, hit, hd, hm, Nat.le_of_ble_eq_true hc.1, fun x hx => by simpa [Nat.blt_eq] using hc.2 x hx, hx⟩
theorem expandAll_ok {eng : Code → Env → Heap → Res} {it tup okT : Tmp} {c2 : Code} : ∀ {l : List St} {ll : List (List St)}, expandAll eng it tup okT c2 l = some ll → ∀ s ∈ l, ∃ ca ∈ ll, expand eng it tup okT c2 s = some ca
  | [], _, _, s, hs => by simp at hs
  | x :: l, ll, h, s, hs => by
    rw [expandAll] at h
    split at h <;> try (simp at h; done)
    rename_i a ha
    split at h <;> try (simp at h; done)
    rename_i b hb
    simp only [Option.some.injEq] at h
    subst h
    rcases List.mem_cons.1 hs with rfl | hs
    · exact ⟨a, by simp, ha⟩
    · obtain ⟨ca, h1, h2⟩ := expandAll_ok hb s hs
      exact ⟨ca, by simp [h1], h2⟩
theorem not_seen {seen : List Nat} {b : Nat} : (!(seen.any fun y => Nat.beq b y)) = true ↔ b ∉ seen := by
  rw [Bool.not_eq_true', ← Bool.not_eq_true, List.any_eq_true]
  constructor
  · intro h hb; exact h ⟨b, hb, Nat.beq_refl b⟩
  · rintro h ⟨y, hy, e⟩; exact h (Nat.eq_of_beq_eq_true e ▸ hy)

theorem mapLoopOf_ok {body : Code} {it tup okT : Tmp} {c2 : Code} (h : mapLoopOf body = some (it, tup, okT, c2)) :
    ∃ id nx ex, body = .seq (.region id #[nx, ex] false) c2 ∧ nx.op = .next (.tmp it) false ∧ nx.dst = some tup ∧ nx.guard = none ∧ ex.op = .extract (.tmp tup) 0 ∧ ex.dst = some okT ∧ ex.guard = none := by
  unfold mapLoopOf at h
  split at h <;> try (simp at h; done)
  rename_i id ops c2'
  split at h <;> try (simp at h; done)
  rename_i nx ex hops
  split at h <;> try (simp at h; done)
  rename_i it' hnx
  split at h <;> try (simp at h; done)
  rename_i tup1 tup2 okT' h1 h2 h3 h4 h5
  split at h <;> try (simp at h; done)
  rename_i he
  simp only [Option.some.injEq, Prod.mk.injEq] at h
  obtain ⟨rfl, rfl, rfl, rfl⟩ := h
  have he := Nat.eq_of_beq_eq_true he
  subst he
  refine ⟨id, nx, ex, ?_, hnx, h1, h2, h3, h4, h5⟩
  congr 2
  exact Array.ext' (by rw [hops])

/-- a loop that is to be taken up to n times. -/
def Rounds' (P : Program) (ng nt : Nat) (c : Code) (n : Nat) (ex : AExit) (e e' : Env) (h h' : Heap) : Prop :=
  HWf h → HWf h' ∧ h.nx ≤ h'.nx ∧ ∀ (N : Nat) (F : Nat → Option Blk) (m : Mp) (w : World) (a : Act) (Q : Exit → Act → World → Prop), h'.nx ≤ N → HRel m (mix h N F) w → GlobOk ng m → ARel m e.at a nt →
    (∀ m' w' a' x, HRel m' (mix h' N F) w' → Step m w m' w' → ARel m' e'.at a' nt → XRel m' ex x → Q x a' w') → Code.rounds P c Q n a w
theorem XRel.not_normal {m : Mp} {x : Exit} {ex : AExit} (hx : XRel m ex x) (hn : ex ≠ .normal) : x ≠ .normal := by
  cases ex with
  | normal => exact absurd rfl hn
  | ret => have : x = .ret := hx; subst this; simp
  | exit id => have : x = .exit id := hx; subst this; simp
  | goto l => have : x = .goto l := hx; subst this; simp
  | pan v => obtain ⟨v', hx, _⟩ := (hx : ∃ v', x = .panic [{ v := v', recovered := false }] ∧ VRel m v v'); subst hx; simp
theorem then_of_not {K : Act → World → Prop} {Q : Exit → Act → World → Prop} {x : Exit} {a : Act} {w : World} (hx : x ≠ .normal) (h : Q x a w) : Exit.then K Q x a w := by
  cases x with
  | normal => exact absurd rfl hx
  | _ => exact h

theorem explore_ok {eng : Code → Env → Heap → Res} (heng : ∀ c e e' h h' ex, codeOk ng nt c = true → eng c e h = some (ex, e', h') → Comes' P ng nt c ex e e' h h') {body : Code} (hb : codeOk ng nt body = true) {it tup okT : Tmp} {c2 : Code} (hml : mapLoopOf body = some (it, tup, okT, c2)) :
    ∀ (n : Nat) (L : List St) (ex : AExit) (e' : Env) (h' : Heap), explore eng it tup okT c2 n L = some (ex, e', h') → ∀ s ∈ L, Rounds' P ng nt body n ex s.2.1 e' s.2.2 h' := by
  obtain ⟨id, nx, exo, hbody, hnx, hnd, hng, hex, hed, heg⟩ := mapLoopOf_ok hml
  subst hbody
  simp only [codeOk, Bool.and_eq_true, List.all_cons, List.all_nil, Bool.and_true] at hb
  obtain ⟨⟨ok1, ok2⟩, ok3⟩ := hb
  intro n
  induction n with
  | zero => intro L ex e' h' hr; simp [explore] at hr
  | succ n ih =>
    intro L ex e' h' hr s hs
    replace hr : exploreF eng it tup okT c2 (explore eng it tup okT c2 n) L = some (ex, e', h') := hr
    unfold exploreF at hr
    split at hr <;> try (simp at hr; done)
    rename_i ll hll
    obtain ⟨ca, hca, hxs⟩ := expandAll_ok hll s hs
    obtain ⟨d, r, since, seen, cur, last, es, clk, hit, hd, hmap, hsl, hold, hgo⟩ := expand_ok hxs
    have key : ∀ x ∈ es, x.2.2 ∉ seen → x ∈ es.filter fun x => !(seen.any fun y => Nat.beq x.2.2 y) := fun x hx hns => List.mem_filter.2 ⟨hx, not_seen.2 hns⟩
    cases hall : ll.all List.isEmpty with
    | true =>
      rw [hall] at hr
      simp only at hr
      have hce : ca = [] := by simpa using List.all_eq_true.1 hall ca hca
      subst hce
      have hnil := expandGo_nil hgo
      split at hr <;> try (simp at hr; done)
      rename_i s0
      have : s = s0 := by simpa using hs
      subst this
      split at hr
      · simp at hr
      · rename_i hnn
        have hne : ex ≠ .normal := fun he => hnn _ _ (he ▸ hr)
        have h1c := heng _ _ _ _ _ _ ok3 hr
        intro hwf
        obtain ⟨a1, a2, a3⟩ := h1c hwf
        refine ⟨a1, a2, fun N F m w a Q hN hh hg har hQ => ?_⟩
        rw [rounds_succ]
        refine mapStep_wp hnx hnd hng hex hed heg ok1 ok2 hwf hit hsl hd hmap hold (by omega) hh hg har ?_ ?_
        · intro x hx hns
          have := key x hx hns
          rw [hnil] at this
          simp at this
        · intro _ m' w' a' g1 g2 g3
          refine a3 N F m' w' a' _ hN g1 (hg.mono g2.ext) g3 ?_
          intro m2 w2 a2' x q1 q2 q3 q4
          exact then_of_not (q4.not_normal hne) (hQ m2 w2 a2' x q1 (g2.trans q2) q3 q4)
    | false =>
      rw [hall] at hr
      simp only at hr
      cases hany : ll.any List.isEmpty with
      | true => rw [hany] at hr; simp at hr
      | false =>
        rw [hany] at hr
        simp only at hr
        generalize hnext : (ll.flatten.foldl (fun acc s => addSt s acc) []) = next at hr
        cases hcov : ll.flatten.all (covered next) with
        | false => rw [hcov] at hr; simp at hr
        | true =>
          rw [hcov] at hr
          simp only at hr
          have hne : ca ≠ [] := fun he => by
            rw [← Bool.not_eq_true, List.any_eq_true] at hany
            exact hany ⟨ca, hca, by simp [he]⟩
          have step : ∀ x ∈ es, x.2.2 ∉ seen → ∃ (e1 : Env) (h1 : Heap) (t : St), eng c2 ((s.2.1.put (some tup) (.tuple #[.bool true, x.1, x.2.1])).put (some okT) (.bool true)) (stepIt s.2.2 d r since seen x.2.2 clk) = some (.normal, e1, h1) ∧
              (HWf h1 → HWf t.2.2 ∧ t.2.2.nx = h1.nx ∧ ∀ (N : Nat) (F : Nat → Option Blk) (m : Mp) (w : World), h1.nx ≤ N → HRel m (mix h1 N F) w → HRel m (mix t.2.2 N F) w) ∧ leT e1 t.2.1 = true ∧ Rounds' P ng nt (.seq (.region id #[nx, exo] false) c2) n ex t.2.1 e' t.2.2 h' := by
            intro x hx hns
            obtain ⟨e1, h1, s1, g1, g2, g3⟩ := (expandGo_ok hgo).2 x (key x hx hns)
            obtain ⟨t, ht, g4, g5⟩ := covered_ok (List.all_eq_true.1 hcov s1 (List.mem_flatten.2 ⟨ca, hca, g3⟩))
            refine ⟨e1, h1, t, g1, fun hw1 => ?_, ?_, ih next ex e' h' hr t ht⟩
            · obtain ⟨b1, b2, b3, b4⟩ := restIt_ok g2 hw1
              rw [← g4]
              exact ⟨b1, b2, b4⟩
            · have : s1.2.1 = e1 := by
                unfold restIt at g2
                split at g2 <;> try (simp at g2; done)
                simp only [Option.some.injEq] at g2
                rw [← g2]
              rw [← this]; exact g5
          have hstepwf : ∀ b, HWf s.2.2 → HWf (stepIt s.2.2 d r since seen b clk) := fun b hwf => (HWf.apply hwf (.inr ⟨d, _, rfl, by rw [hd]; simp⟩)).1
          intro hwf
          have hex1 : ∃ x ∈ es, x.2.2 ∉ seen := by
            cases hf : es.filter fun x => !(seen.any fun y => Nat.beq x.2.2 y) with
            | nil =>
              rw [hf] at hgo
              have : some [] = some ca := hgo
              simp only [Option.some.injEq] at this
              exact absurd this.symm hne
            | cons x l =>
              have := List.mem_filter.1 (hf ▸ List.mem_cons_self : x ∈ es.filter fun x => !(seen.any fun y => Nat.beq x.2.2 y))
              exact ⟨x, this.1, not_seen.1 this.2⟩
          have gen : ∀ x ∈ es, x.2.2 ∉ seen → HWf h' ∧ s.2.2.nx ≤ h'.nx := by
            intro x hx hns
            obtain ⟨e1, h1, t, g1, g2, g3, g4⟩ := step x hx hns
            obtain ⟨a1, a2, _⟩ := heng _ _ _ _ _ _ ok3 g1 (hstepwf _ hwf)
            obtain ⟨b1, b2, _⟩ := g2 a1
            obtain ⟨c1, c2', _⟩ := g4 b1
            refine ⟨c1, ?_⟩
            have : (stepIt s.2.2 d r since seen x.2.2 clk).nx = s.2.2.nx := rfl
            omega
          obtain ⟨x0, hx0, hns0⟩ := hex1
          obtain ⟨w1, w2⟩ := gen x0 hx0 hns0
          refine ⟨w1, w2, fun N F m w a Q hN hh hg har hQ => ?_⟩
          rw [rounds_succ]
          refine mapStep_wp hnx hnd hng hex hed heg ok1 ok2 hwf hit hsl hd hmap hold (by omega) hh hg har ?_ ?_
          · intro x hx hns m' w' a' p1 p2 p3
            obtain ⟨e1, h1, t, g1, g2, g3, g4⟩ := step x hx hns
            obtain ⟨a1, a2, a3⟩ := heng _ _ _ _ _ _ ok3 g1 (hstepwf _ hwf)
            obtain ⟨b1, b2, b3⟩ := g2 a1
            obtain ⟨c1, c2', c3⟩ := g4 b1
            refine a3 N F m' w' a' _ (by omega) p1 (hg.mono p2.ext) p3 ?_
            intro m2 w2 a2' x q1 q2 q3 q4
            have : x = .normal := q4
            subst this
            refine c3 N F m2 w2 a2' Q hN (b3 N F m2 w2 (by omega) q1) (hg.mono (p2.trans q2).ext) (q3.le g3) ?_
            intro m3 w3 a3' x q5 q6 q7 q8
            exact hQ m3 w3 a3' x q5 ((p2.trans q2).trans q6) q7 q8
          · intro hend
            exact absurd (hend x0 hx0) hns0
end Go.AM
