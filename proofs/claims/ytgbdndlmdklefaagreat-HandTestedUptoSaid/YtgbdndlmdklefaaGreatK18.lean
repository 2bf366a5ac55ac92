/- A crowd at a channel with room: a leaver's step, a send, a receive, a go statement. -/
import Derived.Test.YtgbdndlmdklefaaGreatK17
set_option linter.unusedSimpArgs false
set_option linter.unusedVariables false
namespace Go.Mu
open Go Go.Conc

section
variable {C : Crw} {gs : Array Goroutine} {w w' : World} {t u : Trace} {V V₁ Vc : Nat → Prop} {ws : List WS} {ms : List Mail} {s : Nat} {D : List Nat}

/-- Operations that touch nothing, the machine as it was. -/
theorem CInv.hush (h : CInv C gs w t V ws ms s D) (hn : ∀ op ∈ u, op.act.touch? = none) (hw : Wordless u) (hl : ∀ op ∈ u, op.act.low w.heap.size) : CInv C gs w (t ++ u) V ws ms s D :=
  ⟨h.size, h.at_, h.chan, h.msgs, h.perm, h.room, h.lt, h.disj, fun h' V' hh => (h.own h' V' hh).mute hn, h.tra.mute (g := 0) hn hw hl, fun i a ha hm => by
    rcases touchAt_app ha with ⟨hi, ha'⟩ | ⟨op, hop, hx, hxa, _⟩
    · rcases h.all i a ha' hm with h1 | ⟨j, k, g, w0, V0, h1, h2⟩ | ⟨j, h1, h2⟩
      · exact .inl (h1.app _)
      · exact .inr (.inl ⟨j, k, g, w0, V0, h1, by simpa [Trace.g?, getElem?_append_old hi] using h2⟩)
      · exact .inr (.inr ⟨j, h1, h2.app _⟩)
    · rw [hn op hop] at hxa; cases hxa⟩
theorem CInv.main0 (h : CInv C gs w t V ws ms s D) (g' : Goroutine) : CInv C (gs.setIfInBounds 0 g') w t V ws ms s D :=
  ⟨by simpa using h.size, fun i x hx => let ⟨g, h1, h2⟩ := h.at_ i x hx; ⟨g, by rw [Array.getElem?_setIfInBounds_ne (by omega)]; exact h1, h2⟩, h.chan, h.msgs, h.perm, h.room, h.lt, h.disj, h.own, h.tra, h.all⟩

theorem Holder.quit {i n m : Nat} {r : Nat} (hx : ws[i]? = some (.quit n)) {h' : Who} {V' : Nat → Prop} (hh : Holder (ws.set i (.quit m)) ms r V h' V') : Holder ws ms r V h' V' := by
  cases hh with
  | main => exact .main
  | @act j k2 g2 w2 V2 hj =>
    by_cases e : i = j
    · subst e
      rw [List.getElem?_set_self (List.getElem?_eq_some_iff.1 hx).1] at hj
      cases hj
    · rw [List.getElem?_set_ne e] at hj
      exact .act hj
  | msg hj => exact .msg hj
/-- A LEAVER SLIPS. -/
theorem CInv.slip (h : CInv C gs w t V ws ms s D) {i n m : Nat} {g' : Goroutine} (hx : ws[i]? = some (.quit n)) (hq : QuitsQ C.P m g') : CInv C (gs.setIfInBounds (i + 1) g') w t V (ws.set i (.quit m)) ms s D := by
  have hil := (List.getElem?_eq_some_iff.1 hx).1
  refine ⟨by simpa using h.size, fun j x hj => ?_, h.chan, h.msgs, ?_, h.room, fun h' V' hh => h.lt h' V' (hh.quit hx), fun h1 h2 V1 V2 hh1 hh2 => h.disj h1 h2 V1 V2 (hh1.quit hx) (hh2.quit hx), fun h' V' hh => h.own h' V' (hh.quit hx), h.tra, fun j a ha hm => ?_⟩
  · by_cases e : i = j
    · subst e
      rw [List.getElem?_set_self hil] at hj
      cases hj
      exact ⟨g', by rw [Array.getElem?_setIfInBounds_self_of_lt (by have := h.size; omega)], hq⟩
    · rw [List.getElem?_set_ne e] at hj
      obtain ⟨g1, h1, h2⟩ := h.at_ j x hj
      exact ⟨g1, by rw [Array.getElem?_setIfInBounds_ne (by omega)]; exact h1, h2⟩
  · obtain ⟨l₁, l₂, e1, e2⟩ := getElem?_acts hx
    have := h.perm
    rw [e1] at this; rw [e2]; exact this
  · rcases h.all j a ha hm with h1 | ⟨j', k', g1, w1, V1, h1, h2⟩ | h1
    · exact .inl h1
    · refine .inr (.inl ⟨j', k', g1, w1, V1, ?_, h2⟩)
      by_cases e : i = j'
      · subst e; rw [hx] at h1; cases h1
      · rw [List.getElem?_set_ne e]; exact h1
    · exact .inr (.inr h1)

theorem Holder.sent {i n k : Nat} {g : Goroutine} {w0 : World} {V0 : Nat → Prop} {m : Mail} {r : Nat} (hx : ws[i]? = some (.act k g w0 V0)) {h' : Who} {V' : Nat → Prop} (hh : Holder (ws.set i (.quit n)) (ms ++ [m]) r V h' V') :
    (h' = .m (r + ms.length) ∧ V' = m.V) ∨ (Holder ws ms r V h' V' ∧ h' ≠ .g (i + 1) ∧ h' ≠ .m (r + ms.length)) := by
  cases hh with
  | main => exact .inr ⟨.main, by simp, by simp⟩
  | @act j k2 g2 w2 V2 hj =>
    by_cases e : i = j
    · subst e
      rw [List.getElem?_set_self (List.getElem?_eq_some_iff.1 hx).1] at hj
      cases hj
    · rw [List.getElem?_set_ne e] at hj
      exact .inr ⟨.act hj, by simp; omega, by simp⟩
  | @msg j m' hj =>
    rcases Nat.lt_or_ge j ms.length with hlt | hge
    · rw [List.getElem?_append_left hlt] at hj
      exact .inr ⟨.msg hj, by simp, by simp; omega⟩
    · rw [List.getElem?_append_right hge] at hj
      have : j - ms.length = 0 := by
        have := (List.getElem?_eq_some_iff.1 hj).1
        simp at this; omega
      rw [this] at hj
      simp at hj
      subst hj
      exact .inl ⟨by congr 1; omega, rfl⟩
/-- A WORKER HAS SENT. -/
theorem CInv.sent (h : CInv C gs w t V ws ms s D) {i k n : Nat} {g g' : Goroutine} {v : Value} {w0 : World} {V0 : Nat → Prop} (hx : ws[i]? = some (.act k g w0 V0)) (hM : C.Msg k v w V0) (hq : QuitsQ C.P n g')
    (hn : ∀ op ∈ u, op.act.touch? = none) (hw : Wordless u) (hl : ∀ op ∈ u, op.act.low w.heap.size) {q : Nat} {z : MemOp} (hz : (t ++ u)[q]? = some z) (hzs : t.size ≤ q) (hza : z.act = .send C.c (D.length + ms.length)) (hzg : z.g = i + 1) :
    CInv C (gs.setIfInBounds (i + 1) g') (w.setChan C.c C.cap ((ms.map (·.v)).toArray.push v) false (D.length + ms.length + 1) D.length C.tm) (t ++ u) V (ws.set i (.quit n)) (ms ++ [⟨k, v, w, V0⟩]) s D := by
  have hil := (List.getElem?_eq_some_iff.1 hx).1
  have hc := (Array.getElem?_eq_some_iff.1 h.chan).1
  have hme := h.lt _ _ (.act hx)
  have hrel : ∀ h' V', Holder ws ms D.length V h' V' → Rel V' w (w.setChan C.c C.cap ((ms.map (·.v)).toArray.push v) false (D.length + ms.length + 1) D.length C.tm) := fun h' V' hh => rel_setChan fun b hb => (h.lt _ _ hh b hb).2
  have hsz : (w.setChan C.c C.cap ((ms.map (·.v)).toArray.push v) false (D.length + ms.length + 1) D.length C.tm).heap.size = w.heap.size := by simp [World.setChan]
  have h2 := h.hush hn hw hl
  have know : ∀ {j : Nat}, Knows t (i + 1) j → Kn C.c (t ++ u) (.m (D.length + ms.length)) j := fun hk => ⟨q, z, hz, hza, .inr (hk.hb_new hzs hz hzg)⟩
  refine ⟨by simpa using h.size, fun j x hj => ?_, ?_, fun m hm => ?_, ?_, h.room, fun h' V' hh b hb => ?_, fun h1 h2' V1 V2 hh1 hh2 hne b hb1 hb2 => ?_, fun h' V' hh => ?_, ?_, fun j a ha hm => ?_⟩
  · by_cases e : i = j
    · subst e
      rw [List.getElem?_set_self hil] at hj
      cases hj
      exact ⟨g', by rw [Array.getElem?_setIfInBounds_self_of_lt (by have := h.size; omega)], hq⟩
    · rw [List.getElem?_set_ne e] at hj
      obtain ⟨g1, h1, h3⟩ := h.at_ j x hj
      refine ⟨g1, by rw [Array.getElem?_setIfInBounds_ne (by omega)]; exact h1, h3.rel fun k g' w0 V' e' => ?_⟩
      subst e'
      exact hrel _ _ (.act hj)
  · simp only [World.setChan]
    rw [Array.getElem?_setIfInBounds_self_of_lt hc]
    simp [Nat.add_assoc]
  · rw [List.mem_append] at hm
    rcases hm with hm | hm
    · obtain ⟨j, hj⟩ := List.getElem?_of_mem hm
      exact ⟨(h.msgs m hm).1, (h.msgs m hm).2.trans (hrel _ _ (.msg hj))⟩
    · simp at hm; subst hm
      exact ⟨hM, hrel _ _ (.act hx)⟩
  · obtain ⟨l₁, l₂, e1, e2⟩ := getElem?_acts hx
    have hp := h.perm
    rw [e1] at hp; rw [e2]
    refine List.Perm.trans ?_ hp
    simp only [WS.key, Option.toList, List.append_nil, List.map_append, List.map_cons, List.map_nil, List.append_assoc]
    refine List.Perm.append_left _ ?_
    have e1 : l₂ ++ (ms.map (·.k) ++ ([k] ++ D)) = (l₂ ++ ms.map (·.k)) ++ ([k] ++ D) := by simp
    have e2 : [k] ++ (l₂ ++ (ms.map (·.k) ++ D)) = [k] ++ ((l₂ ++ ms.map (·.k)) ++ D) := by simp
    rw [e1, e2]
    simp only [List.singleton_append]
    exact List.perm_middle
  · rw [hsz]
    rcases hh.sent hx with ⟨rfl, rfl⟩ | ⟨hh, _⟩
    · exact hme b hb
    · exact h.lt _ _ hh b hb
  · rcases hh1.sent hx with ⟨rfl, rfl⟩ | ⟨kk1, n1, m1⟩ <;> rcases hh2.sent hx with ⟨rfl, rfl⟩ | ⟨kk2, n2, m2⟩
    · exact absurd rfl hne
    · exact h.disj _ _ _ _ (.act hx) kk2 (Ne.symm n2) b hb1 hb2
    · exact h.disj _ _ _ _ kk1 (.act hx) n1 b hb1 hb2
    · exact h.disj _ _ _ _ kk1 kk2 hne b hb1 hb2
  · rcases hh.sent hx with ⟨rfl, rfl⟩ | ⟨hh, _⟩
    · intro j a b ha hb hv
      rcases touchAt_app ha with ⟨_, ha'⟩ | ⟨op, hop, _, hxa, _⟩
      · exact (h.own _ _ (.act hx) j a b ha' hb hv).imp id know
      · rw [hn op hop] at hxa; cases hxa
    · exact h2.own _ _ hh
  · rw [hsz]; exact h2.tra
  · rcases h2.all j a ha hm with h1 | ⟨j', k', g1, w1, V1, h1, h3⟩ | ⟨j', h1, h3⟩
    · exact .inl h1
    · by_cases e : i = j'
      · subst e
        refine .inr (.inr ⟨ms.length, by simp, ?_⟩)
        rcases touchAt_app ha with ⟨hj, ha'⟩ | ⟨op, hop, _, hxa, _⟩
        · obtain ⟨y, hy, hyg⟩ := Option.map_eq_some_iff.1 h3
          have hy' : t[j]? = some y := by rw [← getElem?_append_old (u := u) hj]; exact hy
          have := knows_own hy'
          rw [hyg] at this
          exact know this
        · rw [hn op hop] at hxa; cases hxa
      · exact .inr (.inl ⟨j', k', g1, w1, V1, by rw [List.getElem?_set_ne e]; exact h1, h3⟩)
    · exact .inr (.inr ⟨j', by simp; omega, h3⟩)

theorem Holder.got {m : Mail} {r : Nat} {h' : Who} {V' : Nat → Prop} (hh : Holder ws ms (r + 1) (fun b => V b ∨ m.V b) h' V') :
    (h' = .g 0 ∧ V' = fun b => V b ∨ m.V b) ∨ (Holder ws (m :: ms) r V h' V' ∧ h' ≠ .g 0 ∧ h' ≠ .m r) := by
  cases hh with
  | main => exact .inl ⟨rfl, rfl⟩
  | act hj => exact .inr ⟨.act hj, by simp, by simp⟩
  | @msg j m' hj =>
    refine .inr ⟨?_, by simp, by simp; omega⟩
    have : Holder ws (m :: ms) r V (.m (r + (j + 1))) m'.V := .msg (by simpa using hj)
    rwa [show r + (j + 1) = r + 1 + j by omega] at this
/-- GOROUTINE 0 HAS RECEIVED. -/
theorem CInv.got {m : Mail} (h : CInv C gs w t V ws (m :: ms) s D) (hk : ∀ i, Kn C.c t (.m D.length) i → Knows t 0 i) :
    CInv C gs (w.setChan C.c C.cap (ms.map (·.v)).toArray false (D.length + ms.length + 1) (D.length + 1) C.tm) t (fun b => V b ∨ m.V b) ws ms s (m.k :: D) := by
  have hc := (Array.getElem?_eq_some_iff.1 h.chan).1
  have hrel : ∀ h' V', Holder ws (m :: ms) D.length V h' V' → Rel V' w (w.setChan C.c C.cap (ms.map (·.v)).toArray false (D.length + ms.length + 1) (D.length + 1) C.tm) := fun h' V' hh => rel_setChan fun b hb => (h.lt _ _ hh b hb).2
  have hsz : (w.setChan C.c C.cap (ms.map (·.v)).toArray false (D.length + ms.length + 1) (D.length + 1) C.tm).heap.size = w.heap.size := by simp [World.setChan]
  have hm0 : Holder ws (m :: ms) D.length V (.m D.length) m.V := by
    have : Holder ws (m :: ms) D.length V (.m (D.length + 0)) m.V := .msg (by simp)
    simpa using this
  refine ⟨h.size, fun j x hj => ?_, ?_, fun m' hm => ?_, ?_, h.room, fun h' V' hh b hb => ?_, fun h1 h2' V1 V2 hh1 hh2 hne b hb1 hb2 => ?_, fun h' V' hh => ?_, ?_, fun j a ha hm => ?_⟩
  · obtain ⟨g1, h1, h3⟩ := h.at_ j x hj
    refine ⟨g1, h1, h3.rel fun k g' w0 V' e' => ?_⟩
    subst e'
    exact hrel _ _ (.act hj)
  · simp only [World.setChan]
    rw [Array.getElem?_setIfInBounds_self_of_lt hc]
    simp; omega
  · obtain ⟨j, hj⟩ := List.getElem?_of_mem hm
    exact ⟨(h.msgs m' (by simp [hm])).1, (h.msgs m' (by simp [hm])).2.trans (hrel _ _ (.msg (j := j + 1) (by simpa using hj)))⟩
  · refine List.Perm.trans ?_ h.perm
    refine List.Perm.append_left _ ?_
    simp only [List.map_cons, List.cons_append]
    exact List.perm_middle
  · rw [hsz]
    rcases hh.got with ⟨rfl, rfl⟩ | ⟨hh, _⟩
    · rcases hb with hb | hb
      · exact h.lt _ _ .main b hb
      · exact h.lt _ _ hm0 b hb
    · exact h.lt _ _ hh b hb
  · rcases hh1.got with ⟨rfl, rfl⟩ | ⟨hh1, n1, m1⟩ <;> rcases hh2.got with ⟨rfl, rfl⟩ | ⟨hh2, n2, m2⟩
    · exact absurd rfl hne
    · rcases hb1 with hb1 | hb1
      · exact h.disj _ _ _ _ .main hh2 (Ne.symm n2) b hb1 hb2
      · exact h.disj _ _ _ _ hm0 hh2 (Ne.symm m2) b hb1 hb2
    · rcases hb2 with hb2 | hb2
      · exact h.disj _ _ _ _ hh1 .main n1 b hb1 hb2
      · exact h.disj _ _ _ _ hh1 hm0 m1 b hb1 hb2
    · exact h.disj _ _ _ _ hh1 hh2 hne b hb1 hb2
  · rcases hh.got with ⟨rfl, rfl⟩ | ⟨hh, _⟩
    · intro j a b ha hb hv
      rcases hv with hv | hv
      · exact h.own _ _ .main j a b ha hb hv
      · exact (h.own _ _ hm0 j a b ha hb hv).imp id (hk j)
    · exact h.own _ _ hh
  · rw [hsz]; exact h.tra
  · rcases h.all j a ha hm with h1 | h1 | ⟨j', h1, h3⟩
    · exact .inl h1
    · exact .inr (.inl h1)
    · cases j' with
      | zero => exact .inl (hk j (by simpa using h3))
      | succ j' =>
        refine .inr (.inr ⟨j', by simpa using h1, ?_⟩)
        have e : (m.k :: D).length + j' = D.length + (j' + 1) := by simp; omega
        rw [e]; exact h3

/-- Who receives knows what the sender knew. -/
theorem knows_recv {c k i j : Nat} {y : MemOp} (hw : Wordless t) (hk : Kn c t (.m k) i) (hj : t[j]? = some y) (hya : y.act = .recvDone c k) : Knows t y.g i := by
  obtain ⟨q, z, h1, h2, h3⟩ := hk
  refine ⟨j, y, hj, rfl, h3.trans (.inr (.single (.inr ⟨.handOver (c := c) (k := k) (by rw [act?_of h1, h2]) (by rw [act?_of hj, hya]), hw.heard h1, hw.heard hj⟩)))⟩
/-- Who starts knows what the starter knew. -/
theorem knows_start {p i j : Nat} {x y : MemOp} (hw : Wordless (t ++ u)) (hk : Knows t x.g i) (hi : (t ++ u)[j]? = some x) (hj : t.size ≤ j) (hx : x.act = .go p) {l : Nat} (hl : (t ++ u)[l]? = some y) (hy : y.act = .start) (hyg : y.g = p) : Knows (t ++ u) p i := by
  have h1 := hk.hb_new hj hi rfl
  refine ⟨l, y, hl, hyg, .inr (h1.trans (.single (.inr ⟨.spawn (child := p) (by rw [act?_of hi, hx]) (by rw [act?_of hl, hy]) (by simp [Trace.g?, hl, hyg]), hw.heard hi, hw.heard hl⟩)))⟩

theorem Holder.born {k : Nat} {child : Goroutine} {w0 : World} {r : Nat} {h' : Who} {V' : Nat → Prop} (hh : Holder (ws ++ [.act k child w0 Vc]) ms r V₁ h' V') :
    (h' = .g 0 ∧ V' = V₁) ∨ (h' = .g (ws.length + 1) ∧ V' = Vc) ∨ (Holder ws ms r V h' V' ∧ h' ≠ .g 0 ∧ h' ≠ .g (ws.length + 1)) := by
  cases hh with
  | main => exact .inl ⟨rfl, rfl⟩
  | @act j k2 g2 w2 V2 hj =>
    rcases Nat.lt_or_ge j ws.length with hlt | hge
    · rw [List.getElem?_append_left hlt] at hj
      exact .inr (.inr ⟨.act hj, by simp, by simp; omega⟩)
    · rw [List.getElem?_append_right hge] at hj
      have : j - ws.length = 0 := by
        have := (List.getElem?_eq_some_iff.1 hj).1
        simp at this; omega
      rw [this] at hj
      simp at hj
      obtain ⟨_, _, _, rfl⟩ := hj
      exact .inr (.inl ⟨by congr 1; omega, rfl⟩)
  | msg hj => exact .inr (.inr ⟨.msg hj, by simp, by simp⟩)
/-- GOROUTINE 0 HAS STARTED A WORKER. -/
theorem CInv.born (h : CInv C gs w t V ws ms s D) {child : Goroutine} (hT : WT C.P C.Sh C.c (C.Msg s) child w Vc) (hs : s + 1 ≤ C.cap) (h1 : ∀ b, V₁ b → V b) (h2 : ∀ b, Vc b → V b) (h12 : ∀ b, V₁ b → Vc b → C.Sh b)
    {x y : MemOp} (hx : x.g = 0 ∧ x.act = .go (ws.length + 1)) (hy : y.g = ws.length + 1 ∧ y.act = .start) :
    CInv C (gs.push child) w (t ++ #[x, y]) V₁ (ws ++ [.act s child w Vc]) ms (s + 1) D := by
  have hn : ∀ op ∈ #[x, y], op.act.touch? = none := by
    intro op hop
    simp only [List.mem_toArray, List.mem_cons, List.not_mem_nil, or_false] at hop
    rcases hop with rfl | rfl
    · rw [hx.2]; rfl
    · rw [hy.2]; rfl
  have hwl : Wordless #[x, y] := by
    intro op hop m
    simp only [List.mem_toArray, List.mem_cons, List.not_mem_nil, or_false] at hop
    rcases hop with rfl | rfl
    · rw [hx.2]; simp
    · rw [hy.2]; simp
  have hlow : ∀ op ∈ #[x, y], op.act.low w.heap.size := by
    intro op hop
    simp only [List.mem_toArray, List.mem_cons, List.not_mem_nil, or_false] at hop
    rcases hop with rfl | rfl
    · rw [hx.2]; trivial
    · rw [hy.2]; trivial
  have h3 := h.hush hn hwl hlow
  have hxi : (t ++ #[x, y])[t.size]? = some x := by rw [Array.getElem?_append_right (Nat.le_refl _)]; simp
  have hyi : (t ++ #[x, y])[t.size + 1]? = some y := by rw [Array.getElem?_append_right (Nat.le_succ _)]; simp
  have know : ∀ {i : Nat}, Knows t 0 i → Knows (t ++ #[x, y]) (ws.length + 1) i := fun hk => knows_start h3.tra.wordless (by rw [hx.1]; exact hk) hxi (Nat.le_refl _) hx.2 hyi hy.2 hy.1
  have hne : Who.g 0 ≠ .g (ws.length + 1) := by simp
  have hwsl : ∀ {j : Nat} {x : WS}, ws[j]? = some x → (ws ++ [WS.act s child w Vc])[j]? = some x := fun hj => by
    rw [List.getElem?_append_left (List.getElem?_eq_some_iff.1 hj).1]; exact hj
  refine ⟨by simp [h.size], fun j x hj => ?_, h.chan, h.msgs, ?_, hs, fun h' V' hh b hb => ?_, fun i1 i2 V1 V2 hh1 hh2 hne b hb1 hb2 => ?_, fun h' V' hh => ?_, h3.tra, fun j a ha hm => ?_⟩
  · rcases Nat.lt_or_ge j ws.length with hlt | hge
    · rw [List.getElem?_append_left hlt] at hj
      obtain ⟨g1, h1, h3⟩ := h.at_ j x hj
      exact ⟨g1, by rw [Array.getElem?_push_lt (by have := h.size; omega)]; rw [Array.getElem?_eq_getElem (by have := h.size; omega)] at h1; exact h1, h3⟩
    · rw [List.getElem?_append_right hge] at hj
      have : j - ws.length = 0 := by
        have := (List.getElem?_eq_some_iff.1 hj).1
        simp at this; omega
      rw [this] at hj
      simp at hj; subst hj
      have e : j + 1 = gs.size := by have := h.size; omega
      exact ⟨child, by rw [e]; simp, rfl, hT, .refl _ _⟩
  · have e : acts (ws ++ [WS.act s child w Vc]) = acts ws ++ [s] := by simp [acts, WS.key]
    rw [e, List.range_succ]
    have hp := h.perm
    have : (acts ws ++ [s] ++ (ms.map (·.k) ++ D)).Perm ((acts ws ++ (ms.map (·.k) ++ D)) ++ [s]) := by
      rw [List.append_assoc, List.append_assoc]
      exact List.Perm.append_left _ List.perm_append_comm
    exact this.trans (hp.append_right _)
  · rcases hh.born (V := V) with ⟨rfl, rfl⟩ | ⟨rfl, rfl⟩ | ⟨hh, _⟩
    · exact h.lt _ _ .main b (h1 b hb)
    · exact h.lt _ _ .main b (h2 b hb)
    · exact h.lt _ _ hh b hb
  · rcases hh1.born (V := V) with ⟨rfl, rfl⟩ | ⟨rfl, rfl⟩ | ⟨kk1, n1, _⟩ <;> rcases hh2.born (V := V) with ⟨rfl, rfl⟩ | ⟨rfl, rfl⟩ | ⟨kk2, n2, _⟩
    · exact absurd rfl hne
    · exact h12 b hb1 hb2
    · exact h.disj _ _ _ _ .main kk2 (Ne.symm n2) b (h1 b hb1) hb2
    · exact h12 b hb2 hb1
    · exact absurd rfl hne
    · exact h.disj _ _ _ _ .main kk2 (Ne.symm n2) b (h2 b hb1) hb2
    · exact h.disj _ _ _ _ kk1 .main n1 b hb1 (h1 b hb2)
    · exact h.disj _ _ _ _ kk1 .main n1 b hb1 (h2 b hb2)
    · exact h.disj _ _ _ _ kk1 kk2 hne b hb1 hb2
  · rcases hh.born (V := V) with ⟨rfl, rfl⟩ | ⟨rfl, rfl⟩ | ⟨hh, _⟩
    · exact fun j a b ha hb hv => h3.own _ _ .main j a b ha hb (h1 b hv)
    · intro j a b ha hb hv
      rcases touchAt_app ha with ⟨_, ha'⟩ | ⟨op, hop, _, hxa, _⟩
      · exact (h.own _ _ .main j a b ha' hb (h2 b hv)).imp id know
      · rw [hn op hop] at hxa; cases hxa
    · exact h3.own _ _ hh
  · rcases h3.all j a ha hm with h1 | ⟨j', k', g1, w1, V1, h1, h4⟩ | h1
    · exact .inl h1
    · exact .inr (.inl ⟨j', k', g1, w1, V1, hwsl h1, h4⟩)
    · exact .inr (.inr h1)
/-- Goroutine 0 looks at less. -/
theorem CInv.shrink (h : CInv C gs w t V ws ms s D) (hV : ∀ b, V₁ b → V b) : CInv C gs w t V₁ ws ms s D := by
  have hinv : ∀ h' V', Holder ws ms D.length V₁ h' V' → ∃ V'', Holder ws ms D.length V h' V'' ∧ ∀ b, V' b → V'' b := by
    intro h' V' hh
    cases hh with
    | main => exact ⟨V, .main, hV⟩
    | act hx => exact ⟨_, .act hx, fun _ h => h⟩
    | msg hx => exact ⟨_, .msg hx, fun _ h => h⟩
  refine ⟨h.size, h.at_, h.chan, h.msgs, h.perm, h.room, fun h' V' hh b hb => ?_, fun h1 h2 V1 V2 hh1 hh2 hne b hb1 hb2 => ?_, fun h' V' hh i a b ha hb hv => ?_, h.tra, h.all⟩
  · obtain ⟨V'', k1, k2⟩ := hinv _ _ hh
    exact h.lt _ _ k1 b (k2 b hb)
  · obtain ⟨V3, k1, k2⟩ := hinv _ _ hh1
    obtain ⟨V4, k3, k4⟩ := hinv _ _ hh2
    exact h.disj _ _ _ _ k1 k3 hne b (k2 b hb1) (k4 b hb2)
  · obtain ⟨V'', k1, k2⟩ := hinv _ _ hh
    exact h.own _ _ k1 i a b ha hb (k2 b hv)
end
end Go.Mu
set_option linter.unusedSimpArgs false
set_option linter.unusedVariables false
namespace Go.Mu
open Go Go.Conc

section
variable {C : Crw} {gs : Array Goroutine} {w w' : World} {t u : Trace} {V V₁ Vc : Nat → Prop} {ws : List WS} {ms : List Mail} {s : Nat} {D : List Nat} {g : Goroutine} {sl : Option (Nat × Nat)}

theorem CInv.acc (h : CInv C gs w t V ws ms s D) : Acc (RL (WS.r C.P) WS.E) ws := by
  refine RL.acc (WS.closed C.P) WS.trans fun x hx => ?_
  obtain ⟨i, hi⟩ := List.getElem?_of_mem hx
  obtain ⟨g, _, hg⟩ := h.at_ i x hi
  cases x with
  | act k g' w' V' => exact hg.1 ▸ hg.2.1.acc k
  | quit n => exact WS.acc_quit C.P n
theorem WS.E_refl (x : WS) : WS.E x x := by
  cases x with
  | act k g w V => exact ⟨rfl, rfl, rfl, .refl _ _⟩
  | quit n => rfl
theorem RL.of_set {P : Program} {i : Nat} {x y : WS} (hx : ws[i]? = some x) (hr : WS.r P y x) : RL (WS.r P) WS.E (ws.set i y) ws := by
  refine ⟨by simp, i, ⟨y, x, List.getElem?_set_self (List.getElem?_eq_some_iff.1 hx).1, hx, hr⟩, fun j hj a b ha hb => ?_⟩
  rw [List.getElem?_set_ne (Ne.symm hj), hb] at ha
  cases ha
  exact WS.E_refl _
theorem CInv.has_room (h : CInv C gs w t V ws ms s D) {i k : Nat} {g : Goroutine} {w0 : World} {V0 : Nat → Prop} (hx : ws[i]? = some (.act k g w0 V0)) : ms.length + D.length + 1 ≤ C.cap := by
  have := h.perm.length_eq
  have hr := h.room
  obtain ⟨l₁, l₂, e1, _⟩ := getElem?_acts hx
  rw [e1] at this
  simp [WS.key] at this
  omega
theorem CInv.awake (h : CInv C gs w t V ws ms s D) (h0 : gs[0]? = some g) (hg : awake g) : ∀ g ∈ gs, awake g := by
  intro x hx
  obtain ⟨i, hi⟩ := Array.getElem?_of_mem hx
  cases i with
  | zero => rw [h0] at hi; cases hi; exact hg
  | succ i =>
    obtain ⟨y, _, hy⟩ := h.get hi
    exact awake_of (hy.status.elim .inl fun h => .inr (.inr h))
/-- Nobody but goroutine 0 may be parked. -/
theorem CInv.offers (h : CInv C gs w t V ws ms s D) {i : Nat} {x : Goroutine} (hi : i ≠ 0) (hx : gs[i]? = some x) (r : Nat) (send : Bool) : offersAt x r send = [] := by
  cases i with
  | zero => exact absurd rfl hi
  | succ i =>
    obtain ⟨y, _, hy⟩ := h.get hx
    exact offersAt_of_not_blocked (by rcases hy.status with e | e <;> rw [e] <;> simp) r send

/-- ONE STEP OF ANOTHER'S, while goroutine 0 is not parked at the channel: it is as it was. -/
theorem CInv.other (h : CInv C gs w t V ws ms s D) (h0 : gs[0]? = some g) (hg : g.status = .running) {i : Nat} {g1 : Goroutine} (hi : gs[i + 1]? = some g1) (hr : g1.status = .running) :
    ∃ gs' w' ops ws' ms', runT C.P (crowd gs w sl) (i + 1) = (.next (crowd gs' w' sl), ops) ∧ gs'[0]? = some g ∧ CInv C gs' w' (t ++ ops) V ws' ms' s D ∧ RL (WS.r C.P) WS.E ws' ws ∧ Rel V w w' := by
  obtain ⟨x, hx, hat⟩ := h.get hi
  have hi0 : ((i + 1 : Nat) == 0) = false := by simp
  have set0 : ∀ y : Goroutine, (gs.setIfInBounds (i + 1) y)[0]? = some g := fun y => by rw [Array.getElem?_setIfInBounds_ne (by omega)]; exact h0
  have calm : ∀ (a a' : Goroutine) (w₁ : World), gs.map (woken C.P a a' w₁) = gs := fun a a' w₁ => h.calm w₁ h0 (woken_calm (.inl hg))
  cases x with
  | act k g2 w0 V0 =>
    obtain ⟨rfl, hT, hrel⟩ := hat
    have hdis : ∀ b, V0 b → V b → C.Sh b := fun b h1 h2 => h.disj _ _ _ _ (.act hx) .main (by simp) b h1 h2
    unfold WT at hT
    cases hT with
    | step h1 h2 h3 =>
      obtain ⟨g', w', es, hst, hG⟩ := h2 w hrel
      have hrun := runT_crowd_go (P := C.P) (sl := sl) (i := i + 1) hi (by rw [hi0]; exact hst)
      rw [calm] at hrun
      exact ⟨_, _, _, _, _, hrun, set0 _, h.work hx hG (h3 w g' w' es hrel hst), .of_set hx ⟨w, es, hrel, hst, rfl, rfl⟩, gua_rel hG hdis⟩
    | ret hs =>
      obtain ⟨g₂, v, z, es, hst, hG, hM, n, hq⟩ := hs.2 w hrel
      have hroom := h.has_room hx
      have hp : partners (gs.setIfInBounds (i + 1) ph) C.c false = [] := by
        refine partners_nil fun j y hj => ?_
        rcases getElem?_stand gs (i + 1) j y hj with ⟨_, rfl⟩ | ⟨_, hj⟩
        · exact offersAt_ph _ _
        · by_cases e : j = 0
          · subst e; rw [h0] at hj; cases hj
            exact offersAt_of_not_blocked (by rw [hg]; simp) _ _
          · exact h.offers e hj _ _
      have hrun := crowd_send_room (P := C.P) (sl := sl) hi (by rw [hi0]; exact hst) h.chan (by simp; omega) hp
      rw [finishComm_send] at hrun
      have hT' : WT C.P C.Sh C.c (C.Msg k) g2 w (Newer V0 w.heap.size w.heap.size) := by
        rw [newer_same]; exact WT.rely (CoJ.ret hs) hrel
      have hW := h.work (g' := g2) (fn := g2.frame.fn) (pos := g2.frame.place) hx hG hT'
      rw [newer_same] at hW
      have hgs : gs.setIfInBounds (i + 1) g2 = gs := by
        apply Array.ext_getElem?
        intro j
        by_cases e : i + 1 = j
        · subst e; rw [Array.getElem?_setIfInBounds_self_of_lt (Array.getElem?_eq_some_iff.1 hi).1, hi]
        · rw [Array.getElem?_setIfInBounds_ne e]
      rw [hgs] at hW
      have hxs := List.getElem?_set_self (a := WS.act k g2 w V0) (List.getElem?_eq_some_iff.1 hx).1
      have hc := (Array.getElem?_eq_some_iff.1 h.chan).1
      have hS := hW.sent (u := #[{ g := i + 1, fn := g₂.frame.fn, pos := g₂.frame.place, act := .send C.c (D.length + ms.length) }, { g := i + 1, fn := g₂.frame.fn, pos := g₂.frame.place, act := .sendDone C.c (D.length + ms.length) }])
        (n := n) (g' := Conc.served g₂ undef) (v := v) hxs hM hq
        (by intro op hop; simp at hop; rcases hop with rfl | rfl <;> rfl) (by intro op hop m; simp at hop; rcases hop with rfl | rfl <;> simp) (by intro op hop; simp at hop; rcases hop with rfl | rfl <;> exact hc)
        (q := (t ++ MemOp.ofEvents (i + 1) g2.frame.fn g2.frame.place es).size) (by rw [Array.getElem?_append_right (Nat.le_refl _)]; simp; rfl) (Nat.le_refl _) rfl rfl
      rw [List.set_set, Array.append_assoc] at hS
      exact ⟨_, _, _, _, _, hrun, set0 _, hS, .of_set hx trivial, rel_setChan fun b hb => (h.lt _ _ .main b hb).2⟩
  | quit n =>
    cases n with
    | zero => rw [show g1.status = .finished from hat] at hr; cases hr
    | succ n =>
      rcases hat with hf | ⟨_, g', hst, hq⟩
      · rw [hf] at hr; cases hr
      have hrun := runT_crowd_go (P := C.P) (sl := sl) (i := i + 1) hi (by rw [hi0]; exact hst w)
      rw [calm] at hrun
      have e : MemOp.ofEvents (i + 1) g1.frame.fn g1.frame.place #[] = #[] := by rw [ofEvents_eq]; simp
      rw [e] at hrun
      exact ⟨_, _, _, _, _, hrun, set0 _, by rw [Array.append_empty]; exact h.slip hx hq, .of_set (y := .quit n) hx (Nat.lt_succ_self n), .refl _ _⟩
end
end Go.Mu
set_option linter.unusedSimpArgs false
set_option linter.unusedVariables false
namespace Go.Mu
open Go Go.Conc

/-- From this machine it comes to where Post holds. -/
def Fin (C : Crw) (Post : Nat → List Nat → Goroutine → World → (Nat → Prop) → Prop) (gs : Array Goroutine) (w : World) (sl : Option (Nat × Nat)) (t : Trace) : Prop :=
  ∃ N gs' g' w₁ sl' t' s' D' V' w' ws' ms', runNT C.P N (crowd gs w sl) t = (.next (crowd gs' w₁ sl'), t') ∧ gs'[0]? = some g' ∧ CInv C gs' w₁ t' V' ws' ms' s' D' ∧ Rel V' w' w₁ ∧ Post s' D' g' w' V'
/-- s workers have been started; the messages of D's have been received. -/
def JC (C : Crw) (s : Nat) (D : List Nat) (g : Goroutine) (w : World) (V : Nat → Prop) (Post : Nat → List Nat → Goroutine → World → (Nat → Prop) → Prop) : Prop :=
  ∀ w₀, Rel V w w₀ → ∀ gs sl t ws ms, gs[0]? = some g → CInv C gs w₀ t V ws ms s D → Fin C Post gs w₀ sl t

section
variable {C : Crw} {gs : Array Goroutine} {w w' : World} {t u : Trace} {V V₁ Vc : Nat → Prop} {ws : List WS} {ms : List Mail} {s : Nat} {D : List Nat} {g : Goroutine} {sl : Option (Nat × Nat)} {Post Post' : Nat → List Nat → Goroutine → World → (Nat → Prop) → Prop}

theorem JC.ret (h : Post s D g w V) : JC C s D g w V Post := fun w₀ hr gs sl t ws ms h0 hI => ⟨0, gs, g, w₀, sl, t, s, D, V, w, ws, ms, rfl, h0, hI, hr, h⟩
theorem Fin.bind (h : Fin C Post gs w sl t) (hp : ∀ s' D' g' w' V', Post s' D' g' w' V' → JC C s' D' g' w' V' Post') : Fin C Post' gs w sl t := by
  obtain ⟨N, gs', g', w₁, sl', t', s', D', V', w', ws', ms', h1, h2, h3, h4, h5⟩ := h
  obtain ⟨N2, gs2, g2, w2, sl2, t2, s2, D2, V2, w2', ws2, ms2, k1, k2⟩ := hp _ _ _ _ _ h5 w₁ h4 gs' sl' t' ws' ms' h2 h3
  exact ⟨N + N2, gs2, g2, w2, sl2, t2, s2, D2, V2, w2', ws2, ms2, by rw [runNT_add, h1]; exact k1, k2⟩
theorem JC.bind (h : JC C s D g w V Post) (hp : ∀ s' D' g' w' V', Post s' D' g' w' V' → JC C s' D' g' w' V' Post') : JC C s D g w V Post' :=
  fun w₀ hr gs sl t ws ms h0 hI => (h w₀ hr gs sl t ws ms h0 hI).bind hp
theorem Fin.step {gs' : Array Goroutine} {sl' : Option (Nat × Nat)} {ops : Trace} (h : stepT C.P (crowd gs w sl) = (.next (crowd gs' w' sl'), ops)) (hf : Fin C Post gs' w' sl' (t ++ ops)) : Fin C Post gs w sl t := by
  obtain ⟨N, gs2, g2, w2, sl2, t2, s2, D2, V2, w2', ws2, ms2, k1, k2⟩ := hf
  exact ⟨N + 1, gs2, g2, w2, sl2, t2, s2, D2, V2, w2', ws2, ms2, by rw [runNT_succ_next h]; exact k1, k2⟩

theorem JC.shrink (h : JC C s D g w V₁ Post) (hV : ∀ b, V₁ b → V b) : JC C s D g w V Post := fun w₀ hr gs sl t ws ms h0 hI =>
  h w₀ ⟨hr.size, fun b hb hv => hr.keep b hb (hV b hv), hr.os, hr.tape, hr.output⟩ gs sl t ws ms h0 (hI.shrink hV)

/-- GOROUTINE 0 IS RUNNING: whoever is let go, it comes to its own move. -/
theorem JC.next (hg : g.status = .running) (hk : ∀ w₁, Rel V w w₁ → ∀ gs sl t ws ms, gs[0]? = some g → CInv C gs w₁ t V ws ms s D → ∃ gs' w' ops, runT C.P (crowd gs w₁ sl) 0 = (.next (crowd gs' w' sl), ops) ∧ Fin C Post gs' w' sl (t ++ ops)) :
    JC C s D g w V Post := by
  intro w₀ hr gs sl t ws ms h0 hI
  have hacc := hI.acc
  induction hacc generalizing w₀ gs sl t ms with
  | intro ws _ ih =>
    obtain ⟨i, g1, d, sl', hi, hrun, hst⟩ := crowd_pick (P := C.P) (w := w₀) (sl := sl) (hI.awake h0 (awake_of (.inl hg))) ⟨0, g, h0, hg⟩
    have hI' := hI.draw d
    have hr' := hr.trans (rel_at V w₀ d)
    cases i with
    | zero =>
      obtain ⟨gs', w', ops, h1, h2⟩ := hk _ hr' gs sl' t ws ms h0 hI'
      exact Fin.step (hst.trans h1) h2
    | succ i =>
      obtain ⟨gs', w', ops, ws', ms', h1, h2, h3, h4, h5⟩ := hI'.other (sl := sl') h0 hg hi hrun
      exact Fin.step (hst.trans h1) (ih ws' h4 w' (hr'.trans h5) gs' sl' _ ms' h2 h3)

/-- A step of its own. -/
theorem JC.own (hg : g.status = .running) (h : ∀ w₁, Rel V w w₁ → ∃ g' w' es, stepG C.P true g w₁ = .go g' w' es ∧ Gua C.Sh V w₁ w' es ∧ JC C s D g' w' (Newer V w₁.heap.size w'.heap.size) Post) : JC C s D g w V Post := by
  refine JC.next hg fun w₁ hr gs sl t ws ms h0 hI => ?_
  obtain ⟨g', w', es, h1, h2, h3⟩ := h w₁ hr
  have hrun := runT_crowd_go (P := C.P) (sl := sl) (i := 0) h0 (show stepG C.P (0 == 0) g w₁ = _ from h1)
  rw [hI.calm w' h0 (woken_calm (.inl hg))] at hrun
  refine ⟨_, _, _, hrun, h3 w' (.refl _ _) _ sl _ ws ms ?_ (hI.main h2)⟩
  rw [Array.getElem?_setIfInBounds_self_of_lt (Array.getElem?_eq_some_iff.1 h0).1]

/-- A go statement. -/
theorem JC.go (hg : g.status = .running) (h1 : ∀ b, V₁ b → V b) (h2 : ∀ b, Vc b → V b) (h12 : ∀ b, V₁ b → Vc b → C.Sh b) (hs : s + 1 ≤ C.cap)
    (h : ∀ w₁, Rel V w w₁ → ∃ g' child es, stepG C.P true g w₁ = .spawn g' child w₁ es ∧ Gua C.Sh V w₁ w₁ es ∧ WT C.P C.Sh C.c (C.Msg s) child w₁ Vc ∧ JC C (s + 1) D g' w₁ V₁ Post) : JC C s D g w V Post := by
  refine JC.next hg fun w₁ hr gs sl t ws ms h0 hI => ?_
  obtain ⟨g', child, es, k1, k2, k3, k4⟩ := h w₁ hr
  have hrun := runT_crowd_spawn (P := C.P) (sl := sl) (i := 0) h0 (show stepG C.P (0 == 0) g w₁ = _ from k1)
  have hM := hI.main (g' := g') (fn := g.frame.fn) (pos := g.frame.place) k2
  rw [newer_same] at hM
  have hb := hM.born (child := child) k3 hs h1 h2 h12 (x := { g := 0, fn := g.frame.fn, pos := g.frame.place, act := .go gs.size }) (y := { g := gs.size, fn := child.frame.fn, pos := g.frame.place, act := .start }) ⟨rfl, by rw [hI.size]⟩ ⟨hI.size, rfl⟩
  refine ⟨_, _, _, hrun, ?_⟩
  have e : t ++ (((MemOp.ofEvents 0 g.frame.fn g.frame.place es).push { g := 0, fn := g.frame.fn, pos := g.frame.place, act := .go gs.size }).push { g := gs.size, fn := child.frame.fn, pos := g.frame.place, act := .start }) =
      t ++ MemOp.ofEvents 0 g.frame.fn g.frame.place es ++ #[{ g := 0, fn := g.frame.fn, pos := g.frame.place, act := .go gs.size }, { g := gs.size, fn := child.frame.fn, pos := g.frame.place, act := .start }] := by
    apply Array.ext'; simp
  rw [e]
  refine k4 w₁ (.refl _ _) _ sl _ _ ms ?_ hb
  have := (Array.getElem?_eq_some_iff.1 h0).1
  rw [Array.getElem?_push_lt (by simpa using this)]
  simp [this]

/-- GOROUTINE 0 IS PARKED at its receive: the workers go on till one sends. -/
theorem CInv.parked {g₂ : Goroutine} {z : Value} (h : CInv C gs w t V ws [] s D) (h0 : gs[0]? = some (Conc.parked g₂ #[rcase C.c z] (.recv false))) (hlt : D.length < s)
    (hk : ∀ w', Rel V w w' → ∀ gs' sl' t' ws' (m : Mail), gs'[0]? = some (Conc.served g₂ m.v) → C.Msg m.k m.v m.w m.V → Rel m.V m.w w' → (∀ b, V b → m.V b → C.Sh b) → CInv C gs' w' t' (fun b => V b ∨ m.V b) ws' [] s (m.k :: D) → Fin C Post gs' w' sl' t') : Fin C Post gs w sl t := by
  have hacc := h.acc
  induction hacc generalizing w gs sl t with
  | intro ws _ ih =>
    have hpk : (Conc.parked g₂ #[rcase C.c z] (.recv false)).status = .blocked := rfl
    have hsome : ∃ (i : Nat) (g : Goroutine), gs[i]? = some g ∧ g.status = .running := by
      have hl := h.perm.length_eq
      simp at hl
      have : acts ws ≠ [] := fun e => by rw [e] at hl; simp at hl; omega
      obtain ⟨k, hk⟩ := List.exists_mem_of_ne_nil _ this
      obtain ⟨x, hx, hxk⟩ := List.mem_filterMap.1 hk
      obtain ⟨i, hi⟩ := List.getElem?_of_mem hx
      obtain ⟨g1, hg1, hat⟩ := h.at_ i x hi
      cases x with
      | act k' g' w' V' => exact ⟨i + 1, g1, hg1, hat.2.1.running⟩
      | quit n => simp [WS.key] at hxk
    obtain ⟨i, g1, d, sl', hi, hrun, hst⟩ := crowd_pick (P := C.P) (w := w) (sl := sl) (h.awake h0 (awake_of (.inr (.inl hpk)))) hsome
    have hI := h.draw d
    have hrd := rel_at V w d
    have hK : ∀ w', Rel V (w.at d) w' → ∀ gs' sl' t' ws' (m : Mail), gs'[0]? = some (Conc.served g₂ m.v) → C.Msg m.k m.v m.w m.V → Rel m.V m.w w' → (∀ b, V b → m.V b → C.Sh b) → CInv C gs' w' t' (fun b => V b ∨ m.V b) ws' [] s (m.k :: D) → Fin C Post gs' w' sl' t' := fun w' hr => hk w' (hrd.trans hr)
    generalize w.at d = w₁ at hI hst hK
    cases i with
    | zero => rw [h0] at hi; cases hi; rw [hpk] at hrun; cases hrun
    | succ i =>
      obtain ⟨x, hx, hat⟩ := hI.get hi
      have hi0 : ((i + 1 : Nat) == 0) = false := by simp
      have set0 : ∀ y : Goroutine, (gs.setIfInBounds (i + 1) y)[0]? = some (Conc.parked g₂ #[rcase C.c z] (.recv false)) := fun y => by rw [Array.getElem?_setIfInBounds_ne (by omega)]; exact h0
      cases x with
      | act k g2 w0 V0 =>
        obtain ⟨rfl, hT, hrel⟩ := hat
        have hdis : ∀ b, V0 b → V b → C.Sh b := fun b h1 h2 => hI.disj _ _ _ _ (.act hx) .main (by simp) b h1 h2
        unfold WT at hT
        cases hT with
        | step h1 h2 h3 =>
          obtain ⟨g', w', es, hst', hG⟩ := h2 w₁ hrel
          have hW := hI.work (g' := g') (fn := g2.frame.fn) (pos := g2.frame.place) hx hG (h3 w₁ g' w' es hrel hst')
          have hrunT := runT_crowd_go (P := C.P) (sl := sl') (i := i + 1) hi (by rw [hi0]; exact hst')
          rw [hI.calm w' h0 (woken_recv_open _ _ hW.chan)] at hrunT
          have hr := gua_rel hG hdis
          exact Fin.step (hst.trans hrunT) (ih _ (.of_set (y := .act k g' w' (Newer V0 w₁.heap.size w'.heap.size)) hx ⟨w₁, es, hrel, hst', rfl, rfl⟩) hW (set0 _) fun w2 hr2 => hK w2 (hr.trans hr2))
        | ret hs =>
          obtain ⟨g₃, v, z', es, hst', hG, hM, n, hq⟩ := hs.2 w₁ hrel
          have hp : partners (gs.setIfInBounds (i + 1) ph) C.c false = [(0, 0)] := by
            have h0' : (gs.setIfInBounds (i + 1) ph)[0]? = some (Conc.parked g₂ #[rcase C.c z] (.recv false)) := set0 _
            rw [partners_one h0' fun j y hj hy => ?_, offersAt_parked_recv]
            · simp
            · rcases getElem?_stand gs (i + 1) j y hy with ⟨_, rfl⟩ | ⟨_, hy⟩
              · exact offersAt_ph _ _
              · exact hI.offers hj hy _ _
          have hchan : w₁.heap[C.c]? = some (.chan C.cap #[] false (D.length + 0) D.length C.tm) := by simpa using hI.chan
          have hrunT := crowd_send_meets (P := C.P) (sl := sl') (i := i + 1) (j := 0) hi (by rw [hi0]; exact hst') hchan (by omega) h0 hp
          rw [finishComm_send, finishComm_recv] at hrunT
          have hT' : WT C.P C.Sh C.c (C.Msg k) g2 w₁ (Newer V0 w₁.heap.size w₁.heap.size) := by
            rw [newer_same]; exact WT.rely (CoJ.ret hs) hrel
          have hW := hI.work (g' := g2) (fn := g2.frame.fn) (pos := g2.frame.place) hx hG hT'
          rw [newer_same] at hW
          have hgs : gs.setIfInBounds (i + 1) g2 = gs := by
            apply Array.ext_getElem?
            intro j
            by_cases e : i + 1 = j
            · subst e; rw [Array.getElem?_setIfInBounds_self_of_lt (Array.getElem?_eq_some_iff.1 hi).1, hi]
            · rw [Array.getElem?_setIfInBounds_ne e]
          rw [hgs] at hW
          have hxs := List.getElem?_set_self (a := WS.act k g2 w₁ V0) (List.getElem?_eq_some_iff.1 hx).1
          have hc := (Array.getElem?_eq_some_iff.1 hI.chan).1
          generalize hu : (#[{ g := i + 1, fn := g₃.frame.fn, pos := g₃.frame.place, act := .send C.c (D.length + 0) }, { g := 0, fn := g₂.frame.fn, pos := g₂.frame.place, act := .recv C.c D.length C.cap },
              { g := i + 1, fn := g₃.frame.fn, pos := g₃.frame.place, act := .sendDone C.c (D.length + 0) }, { g := 0, fn := g₂.frame.fn, pos := g₂.frame.place, act := .recvDone C.c D.length }] : Array MemOp) = uu at hrunT
          have hmem : ∀ op ∈ uu, op.act.touch? = none ∧ (∀ m, op.act ≠ .mark m) ∧ op.act.low w₁.heap.size := by
            intro op hop
            rw [← hu] at hop
            simp at hop
            rcases hop with rfl | rfl | rfl | rfl <;> exact ⟨rfl, by simp, hc⟩
          have hat0 : ∀ (t0 : Trace), (t0 ++ uu)[t0.size]? = some { g := i + 1, fn := g₃.frame.fn, pos := g₃.frame.place, act := .send C.c (D.length + 0) } := fun t0 => by rw [Array.getElem?_append_right (Nat.le_refl _), ← hu]; simp
          have hat3 : ∀ (t0 : Trace), (t0 ++ uu)[t0.size + 3]? = some { g := 0, fn := g₂.frame.fn, pos := g₂.frame.place, act := .recvDone C.c D.length } := fun t0 => by rw [Array.getElem?_append_right (by omega), ← hu]; simp
          have hS := hW.sent (u := uu) (n := n) (g' := Conc.served g₃ undef) (v := v) hxs hM hq (fun op hop => (hmem op hop).1) (fun op hop m hm => absurd hm ((hmem op hop).2.1 m)) (fun op hop => (hmem op hop).2.2)
            (hat0 _) (Nat.le_refl _) rfl rfl
          rw [List.set_set, Array.append_assoc] at hS
          have hS2 := hS.main0 (Conc.served g₂ v)
          have hG2 := CInv.got (m := ⟨k, v, w₁, V0⟩) (ms := []) hS2 fun j hj => by
            have := knows_recv hS2.tra.wordless hj (j := (t ++ MemOp.ofEvents (i + 1) g2.frame.fn g2.frame.place es).size + 3) (by rw [← Array.append_assoc]; exact hat3 _) rfl
            exact this
          have hwe : (w₁.setChan C.c C.cap (Array.push (List.map (fun x => x.v) ([] : List Mail)).toArray v) false (D.length + ([] : List Mail).length + 1) D.length C.tm).setChan C.c C.cap (([] : List Mail).map (·.v)).toArray false (D.length + ([] : List Mail).length + 1) (D.length + 1) C.tm =
              w₁.setChan C.c C.cap #[] false (D.length + 0 + 1) (D.length + 1) C.tm := by
            simp [World.setChan]
          rw [hwe] at hG2
          have hgs2 : (gs.setIfInBounds 0 (Conc.served g₂ (recvd false v true))).setIfInBounds (i + 1) (Conc.served g₃ undef) = (gs.setIfInBounds (i + 1) (Conc.served g₃ undef)).setIfInBounds 0 (Conc.served g₂ v) := by
            show (gs.setIfInBounds 0 (Conc.served g₂ v)).setIfInBounds (i + 1) (Conc.served g₃ undef) = _
            apply Array.ext_getElem?
            intro j
            simp only [Array.getElem?_setIfInBounds]
            by_cases e1 : i + 1 = j <;> by_cases e2 : 0 = j <;> simp_all
          rw [hgs2] at hrunT
          refine Fin.step (hst.trans hrunT) (hK _ (rel_setChan fun b hb => (hI.lt _ _ .main b hb).2) _ _ _ _ ⟨k, v, w₁, V0⟩ ?_ hM (rel_setChan fun b hb => (hI.lt _ _ (.act hx) b hb).2) (fun b h1 h2 => hdis b h2 h1) hG2)
          rw [Array.getElem?_setIfInBounds_self_of_lt (by have := (Array.getElem?_eq_some_iff.1 h0).1; simpa using this)]
      | quit n =>
        cases n with
        | zero => rw [show g1.status = .finished from hat] at hrun; cases hrun
        | succ n =>
          rcases hat with hf | ⟨_, g', hst', hq⟩
          · rw [hf] at hrun; cases hrun
          have hrunT := runT_crowd_go (P := C.P) (sl := sl') (i := i + 1) hi (by rw [hi0]; exact hst' w₁)
          rw [hI.calm w₁ h0 (woken_recv_open _ _ hI.chan)] at hrunT
          have e : MemOp.ofEvents (i + 1) g1.frame.fn g1.frame.place #[] = #[] := by rw [ofEvents_eq]; simp
          rw [e] at hrunT
          exact Fin.step (hst.trans hrunT) (ih _ (.of_set (y := .quit n) hx (Nat.lt_succ_self n)) (by rw [Array.append_empty]; exact hI.slip hx hq) (set0 _) hK)

/-- A RECEIVE. -/
theorem JC.recv (hg : g.status = .running) (hlt : D.length < s)
    (h : ∀ w₁, Rel V w w₁ → ∃ g₂ z es, stepG C.P true g w₁ = .comm g₂ #[rcase C.c z] true (.recv false) w₁ es ∧ Gua C.Sh V w₁ w₁ es ∧
      ∀ (m : Mail) w', Rel V w₁ w' → m.k < s → m.k ∉ D → C.Msg m.k m.v m.w m.V → Rel m.V m.w w' → (∀ b, V b → m.V b → C.Sh b) → JC C s (m.k :: D) (Conc.served g₂ m.v) w' (fun b => V b ∨ m.V b) Post) : JC C s D g w V Post := by
  refine JC.next hg fun w₁ hr gs sl t ws ms h0 hI => ?_
  obtain ⟨g₂, z, es, h1, h2, h3⟩ := h w₁ hr
  have hM := hI.main (g' := g) (fn := g.frame.fn) (pos := g.frame.place) h2
  rw [newer_same] at hM
  have hset : gs.setIfInBounds 0 g = gs := by
    apply Array.ext_getElem?
    intro j
    by_cases e : 0 = j
    · subst e; rw [Array.getElem?_setIfInBounds_self_of_lt (Array.getElem?_eq_some_iff.1 h0).1, h0]
    · rw [Array.getElem?_setIfInBounds_ne e]
  rw [hset] at hM
  have hp : partners (gs.setIfInBounds 0 ph) C.c true = [] := by
    refine partners_nil fun j y hj => ?_
    rcases getElem?_stand gs 0 j y hj with ⟨_, rfl⟩ | ⟨e, hj⟩
    · exact offersAt_ph _ _
    · exact hI.offers e hj _ _
  have h0lt := (Array.getElem?_eq_some_iff.1 h0).1
  have fresh : ∀ {k : Nat} {D : List Nat} {l : List Nat}, (l ++ k :: D).Perm (List.range s) → k < s ∧ k ∉ D := by
    intro k D l hp
    refine ⟨List.mem_range.1 (hp.mem_iff.1 (by simp)), ?_⟩
    have hn : (l ++ k :: D).Nodup := hp.nodup_iff.2 List.nodup_range
    exact (List.nodup_cons.1 (List.nodup_append.1 hn).2.1).1
  cases ms with
  | nil =>
    have hrun := crowd_waits (P := C.P) (sl := sl) (i := 0) h0 (show stepG C.P (0 == 0) g w₁ = _ from h1) (fun cc hcc => by
      have : cc = rcase C.c z := by simpa using hcc
      subst this
      exact ways_recv_none (by simpa using hI.chan) hp)
    refine ⟨_, _, _, hrun, ?_⟩
    refine CInv.parked (g₂ := g₂) (z := z) (V := V) (s := s) (D := D) (hM.main0 _) (by rw [Array.getElem?_setIfInBounds_self_of_lt h0lt]) hlt fun w' hr' gs' sl' t' ws' m hg' hm hmr hdj hI' => ?_
    have hf := fresh (l := acts ws') (by simpa using hI'.perm)
    exact h3 m w' hr' hf.1 hf.2 hm hmr hdj w' (.refl _ _) gs' sl' t' ws' [] hg' hI'
  | cons m ms =>
    have hrun := crowd_recv_buf (P := C.P) (sl := sl) (i := 0) h0 (show stepG C.P (0 == 0) g w₁ = _ from h1) hI.chan (by simp) hp
    rw [finishComm_recv] at hrun
    have hc := (Array.getElem?_eq_some_iff.1 hI.chan).1
    generalize hu : (#[{ g := 0, fn := g₂.frame.fn, pos := g₂.frame.place, act := .recv C.c D.length C.cap }, { g := 0, fn := g₂.frame.fn, pos := g₂.frame.place, act := .recvDone C.c D.length }] : Array MemOp) = uu at hrun
    have hmem : ∀ op ∈ uu, op.act.touch? = none ∧ (∀ m, op.act ≠ .mark m) ∧ op.act.low w₁.heap.size := by
      intro op hop
      rw [← hu] at hop
      simp at hop
      rcases hop with rfl | rfl <;> exact ⟨rfl, by simp, hc⟩
    have hat1 : ∀ (t0 : Trace), (t0 ++ uu)[t0.size + 1]? = some { g := 0, fn := g₂.frame.fn, pos := g₂.frame.place, act := .recvDone C.c D.length } := fun t0 => by rw [Array.getElem?_append_right (by omega), ← hu]; simp
    have hH := hM.hush (u := uu) (fun op hop => (hmem op hop).1) (fun op hop m hm => absurd hm ((hmem op hop).2.1 m)) (fun op hop => (hmem op hop).2.2)
    have hG := (hH.main0 (Conc.served g₂ m.v)).got fun i hi => knows_recv hH.tra.wordless hi (hat1 _) rfl
    rw [Array.append_assoc] at hG
    have hm := hM.msgs m (by simp)
    have hf := fresh (l := acts ws ++ ms.map (·.k)) (by have := hG.perm; simpa using this)
    have hbuf : ((List.map (fun x => x.v) (m :: ms)).toArray.extract 1 (List.map (fun x => x.v) (m :: ms)).toArray.size) = (ms.map (·.v)).toArray := by
      apply Array.ext'
      simp [Array.toList_extract, List.extract_eq_take_drop, List.take_of_length_le]
    have hval : (List.map (fun x => x.v) (m :: ms)).toArray.getD 0 undef = m.v := by simp [Array.getD]
    rw [hbuf, hval, show D.length + (m :: ms).length = D.length + ms.length + 1 by simp; omega] at hrun
    refine ⟨_, _, _, hrun, ?_⟩
    have hm0 : Holder ws (m :: ms) D.length V (.m D.length) m.V := by
      have : Holder ws (m :: ms) D.length V (.m (D.length + 0)) m.V := .msg (by simp)
      simpa using this
    refine h3 m _ (rel_setChan fun b hb => (hI.lt _ _ .main b hb).2) hf.1 hf.2 hm.1 (hm.2.trans (rel_setChan fun b hb => (hI.lt _ _ hm0 b hb).2)) (fun b h1 h2 => hI.disj _ _ _ _ .main hm0 (by simp) b h1 h2) _ (.refl _ _) _ sl _ ws ms ?_ hG
    show (gs.setIfInBounds 0 (Conc.served g₂ m.v))[0]? = _
    rw [Array.getElem?_setIfInBounds_self_of_lt h0lt]

/-- Goroutine 0's way of running while the workers are about. -/
def Cm (C : Crw) (s : Nat) (D : List Nat) : RMode C.P where
  main := true
  Sh := C.Sh
  J := fun g w V Post => JC C s D g w V fun s' D' g' w' V' => s' = s ∧ D' = D ∧ Post g' w' V'
  ret := fun h => .ret ⟨rfl, rfl, h⟩
  bind := fun h hp => h.bind fun s' D' g' w' V' ⟨e1, e2, h'⟩ => by subst e1; subst e2; exact hp _ _ _ h'
  step := fun hs h => JC.own hs h
end
end Go.Mu
