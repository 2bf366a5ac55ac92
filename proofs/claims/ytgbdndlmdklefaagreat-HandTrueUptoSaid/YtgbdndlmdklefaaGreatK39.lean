/- What a piece of the model's semantics does is told by the answers of the tape alone. -/
import Derived.Test.YtgbdndlmdklefaaGreatK17
import Derived.Conc.Own4
import Derived.Conc.LoneCalls
set_option linter.unusedSimpArgs false
set_option linter.unusedVariables false
namespace Go.Mu
open Go Go.Conc
def re (w : World) (τ : Nat → Question → Nat) (d : Nat) : World := { w with tape := τ, drawn := d }
@[simp] theorem re_heap (w : World) (τ : Nat → Question → Nat) (d : Nat) : (re w τ d).heap = w.heap := rfl
@[simp] theorem re_re (w : World) (τ τ' : Nat → Question → Nat) (d d' : Nat) : re (re w τ d) τ' d' = re w τ' d' := rfl
def Agree (w : World) (τ : Nat → Question → Nat) (d k : Nat) : Prop := ∀ j, j < k → τ (d + j) = w.tape (w.drawn + j)
theorem Agree.less {w : World} {τ : Nat → Question → Nat} {d k k' : Nat} (h : Agree w τ d k) (hk : k' ≤ k) : Agree w τ d k' := fun j hj => h j (by omega)
theorem Agree.behind {w w1 : World} {τ : Nat → Question → Nat} {d k : Nat} (h : Agree w τ d (k - w.drawn)) (ht : w1.tape = w.tape) (hd : w.drawn ≤ w1.drawn) : Agree w1 τ (d + (w1.drawn - w.drawn)) (k - w1.drawn) := fun j hj => by
  have := h (w1.drawn - w.drawn + j) (by omega)
  rw [ht, show w1.drawn + j = w.drawn + (w1.drawn - w.drawn + j) by omega, ← this]
  congr 1; omega
def okHalt : Halt → Prop
  | .panic _ | .unsupported _ | .stuck _ => True
  | _ => False
def Qt (P : Program) {α : Type} : Sem α → (α → Prop) → Prop
  | .pure a, Φ => Φ a
  | .load _ _ k, Φ => ∀ v, Qt P (k v) Φ
  | .store _ _ _ k, Φ => Qt P k Φ
  | .new _ k, Φ => ∀ r, Qt P (k r) Φ
  | .shape _ k, Φ => ∀ s, Qt P (k s) Φ
  | .freeze _ _ k, Φ => Qt P k Φ
  | .frozen _ k, Φ => ∀ b, Qt P (k b) Φ
  | .getObj _ k, Φ => ∀ o, Qt P (k o) Φ
  | .setObj _ _ k, Φ => Qt P k Φ
  | .choose _ k, Φ => ∀ n, Qt P (k n) Φ
  | .sys _ _, _ => False
  | .program k, Φ => Qt P (k P) Φ
  | .mark m k, Φ => m = .noRoom ∧ Qt P k Φ
  | .halt h, _ => okHalt h
def EvLow (B : Nat) (e : Event) : Prop := (∀ m, MemAct.ofEvent e = .mark m → Neutral m) ∧ (MemAct.ofEvent e).low B
theorem EvLow.mono {B B' : Nat} {e : Event} (h : EvLow B e) (hB : B ≤ B') : EvLow B' e := ⟨h.1, MemAct.low_mono hB h.2⟩
def Result.at' {α : Type} : Result α → World
  | .ok _ w => w
  | .halt _ w => w
def Result.reR {α : Type} (r : Result α) (τ : Nat → Question → Nat) (d : Nat) : Result α := match r with
  | .ok a w => .ok a (re w τ d)
  | .halt h w => .halt h (re w τ d)
structure QR (P : Program) {α : Type} (s : Sem α) (Φ : α → Prop) (w : World) (r : Result α) : Prop where
  eq : s.run P w = r
  dr : w.drawn ≤ (Result.at' r).drawn
  tape : (Result.at' r).tape = w.tape
  size : w.heap.size ≤ (Result.at' r).heap.size
  ok : ∀ a w', r = .ok a w' → Φ a
  halt : ∀ h w', r = .halt h w' → okHalt h
  re : ∀ τ d, Agree w τ d ((Result.at' r).drawn - w.drawn) → s.run P (re w τ d) = Result.reR r τ (d + ((Result.at' r).drawn - w.drawn))
  evs : ∀ es, ∀ e ∈ s.events P w es, e ∈ es ∨ EvLow (Result.at' r).heap.size e
theorem QR.step {P : Program} {α : Type} {s s' : Sem α} {Φ : α → Prop} {w w1 : World} {r : Result α} (h : QR P s' Φ w1 r) (hrun : s.run P w = s'.run P w1) (ht : w1.tape = w.tape) (hd : w.drawn ≤ w1.drawn) (hs : w.heap.size ≤ w1.heap.size)
    (hre : ∀ τ d, Agree w τ d (w1.drawn - w.drawn) → s.run P (Mu.re w τ d) = s'.run P (Mu.re w1 τ (d + (w1.drawn - w.drawn))))
    (hev : ∀ es, ∃ es', s.events P w es = s'.events P w1 es' ∧ ∀ e ∈ es', e ∈ es ∨ EvLow w1.heap.size e) : QR P s Φ w r := by
  refine ⟨hrun.trans h.eq, Nat.le_trans hd h.dr, h.tape.trans ht, Nat.le_trans hs h.size, h.ok, h.halt, fun τ d ha => ?_, fun es e he => ?_⟩
  · have hd1 := h.dr
    rw [hre τ d (ha.less (by omega)), h.re τ _ (ha.behind ht hd)]
    congr 1; omega
  · obtain ⟨es', h1, h2⟩ := hev es
    rw [h1] at he
    rcases h.evs es' e he with g | g
    · exact (h2 e g).imp id fun g => g.mono h.size
    · exact .inr g
theorem QR.end_ {P : Program} {α : Type} {s : Sem α} {Φ : α → Prop} {w : World} {r : Result α} (hr : Result.at' r = w) (hrun : s.run P w = r) (hok : ∀ a w', r = .ok a w' → Φ a) (hh : ∀ h w', r = .halt h w' → okHalt h)
    (hre : ∀ τ d, s.run P (Mu.re w τ d) = Result.reR r τ d) (hev : ∀ es, s.events P w es = es) : QR P s Φ w r := by
  refine ⟨hrun, by rw [hr]; exact Nat.le_refl _, by rw [hr], by rw [hr]; exact Nat.le_refl _, hok, hh, fun τ d ha => ?_, fun es e he => ?_⟩
  · rw [hre, hr]; simp
  · rw [hev] at he; exact .inl he
theorem seen_low {P : Program} {w : World} {at_ : Addr} {u : TypeId} {k : Addr} {m : Bool} {x} (h : w.seen P at_ u k m = .ok x) : at_.block < w.heap.size := by
  apply Classical.byContradiction
  intro hn
  have hno : w.heap[at_.block]? = none := Array.getElem?_eq_none (by omega)
  unfold World.seen at h
  rw [hno] at h
  simp only [bind, Except.bind, pure, Except.pure, throw, throwThe, MonadExceptOf.throw] at h
  repeat' split at h
  all_goals first | cases h | skip
theorem farLoad_low {P : Program} {w : World} {a : Addr} {m : Bool} {v : Value} {l : List Addr} (h : w.farLoad P a m = .ok (v, l)) : ∀ b ∈ l, b.block < w.heap.size := by
  unfold World.farLoad at h
  split at h
  · rename_i at_ u hv
    split at h
    · rename_i r hr
      cases h
      unfold World.viewLoad at hr
      cases hs : w.seen P at_ u a m with
      | error e => rw [hs] at hr; cases hr
      | ok x =>
        have hl := seen_low hs
        rw [hs] at hr
        simp only [bind, Except.bind, pure, Except.pure, throw, throwThe, MonadExceptOf.throw] at hr
        repeat' split at hr
        all_goals first
          | (cases hr; done)
          | (cases hr; intro b hb; obtain ⟨y, _, rfl⟩ := List.mem_map.1 hb; exact hl)
    · cases h
  · cases h
theorem farStore_re (P : Program) (w : World) (τ : Nat → Question → Nat) (d : Nat) (a : Addr) (v : Value) (m : Bool) : (re w τ d).farStore P a v m = (w.farStore P a v m).map fun x => (re x.1 τ d, x.2) := by
  unfold World.farStore
  have hh : (re w τ d).heap[a.block]? = w.heap[a.block]? := rfl
  rw [hh]
  cases hb : w.heap[a.block]? with
  | none => simp only [Except.map]; unfold World.noCell; rw [hh]
  | some o =>
    cases o with
    | view at_ u =>
      simp only
      have e : (re w τ d).viewStore P at_ u a v m = (w.viewStore P at_ u a v m).map fun x => (re x.1 τ d, x.2) := by
        unfold World.viewStore
        have hs : (re w τ d).seen P at_ u a m = w.seen P at_ u a m := rfl
        rw [hs]
        simp only [bind, Except.bind, pure, Except.pure, throw, throwThe, MonadExceptOf.throw]
        repeat' split
        all_goals first | rfl | (simp_all [Except.map]; done) | skip
        all_goals simp_all [Except.map, re]
      rw [e]
      cases w.viewStore P at_ u a v m with
      | error e => rfl
      | ok x => rfl
    | _ => simp only [Except.map]; unfold World.noCell; rw [hh]
theorem farStore_low {P : Program} {w w' : World} {a : Addr} {v : Value} {m : Bool} {l : List Addr} (h : w.farStore P a v m = .ok (w', l)) : (∀ b ∈ l, b.block < w.heap.size) ∧ w'.tape = w.tape ∧ w'.drawn = w.drawn ∧ w'.heap.size = w.heap.size := by
  unfold World.farStore at h
  split at h
  · rename_i at_ u hv
    split at h
    · rename_i r hr
      cases h
      unfold World.viewStore at hr
      cases hs : w.seen P at_ u a m with
      | error e =>
        rw [hs] at hr
        simp only [bind, Except.bind, pure, Except.pure, throw, throwThe, MonadExceptOf.throw] at hr
        split at hr <;> cases hr
      | ok x =>
        have hl := seen_low hs
        rw [hs] at hr
        simp only [bind, Except.bind, pure, Except.pure, throw, throwThe, MonadExceptOf.throw] at hr
        repeat' split at hr
        all_goals first
          | (cases hr; done)
          | (cases hr; refine ⟨fun b hb => ?_, rfl, rfl, by simp⟩; obtain ⟨y, _, rfl⟩ := List.mem_map.1 hb; exact hl)
    · cases h
  · cases h
theorem evLow_cell {B : Nat} {a : Addr} {wr sy : Bool} (h : a.block < B) : EvLow B ⟨.cell a, wr, sy⟩ := ⟨fun m hm => by simp [MemAct.ofEvent] at hm, h⟩
theorem evLow_obj {B r : Nat} {wr sy : Bool} (h : r < B) : EvLow B ⟨.obj r, wr, sy⟩ := by
  cases wr <;> cases sy <;> exact ⟨fun m hm => by simp [MemAct.ofEvent] at hm, h⟩
theorem evLow_mark {B : Nat} : EvLow B ⟨.mark .noRoom, false, true⟩ := ⟨fun m hm => by simp [MemAct.ofEvent] at hm; subst hm; rfl, trivial⟩
theorem cell_low {w : World} {a : Addr} {v : Value} (h : w.cell? a = some v) : a.block < w.heap.size := by
  unfold World.cell? at h
  split at h
  · rename_i c e f hc; exact (Array.getElem?_eq_some_iff.1 hc).1
  · cases h
theorem push_low {es : Array Event} {x : Event} {B : Nat} (h : EvLow B x) : ∀ e ∈ es.push x, e ∈ es ∨ EvLow B e := fun e he => by
  rcases Array.mem_push.1 he with g | rfl
  · exact .inl g
  · exact .inr h
theorem app_low {es : Array Event} {l : List Addr} {wr sy : Bool} {B : Nat} (h : ∀ b ∈ l, b.block < B) : ∀ e ∈ es ++ l.toArray.map (⟨.cell ·, wr, sy⟩), e ∈ es ∨ EvLow B e := fun e he => by
  rcases Array.mem_append.1 he with g | g
  · exact .inl g
  · obtain ⟨b, hb, rfl⟩ := Array.mem_map.1 g
    exact .inr (evLow_cell (h b (by simpa using hb)))
theorem Qt.run {P : Program} {α : Type} {s : Sem α} : ∀ {Φ : α → Prop} {w : World}, Qt P s Φ → QR P s Φ w (s.run P w) := by
  induction s with
  | pure a => intro Φ w h; exact QR.end_ rfl rfl (fun b w' e => by simp only [Sem.run, Result.ok.injEq] at e; rw [← e.1]; exact h) (fun h w' e => by cases e) (fun τ d => rfl) fun es => rfl
  | load m a k ih =>
    intro Φ w h
    cases hc : w.cell? a with
    | some v =>
      have e1 : (Sem.load m a k).run P w = (k v).run P w := by simp only [Sem.run, hc]
      rw [e1]
      refine QR.step (ih v (h v)) e1 rfl (Nat.le_refl _) (Nat.le_refl _) (fun τ d ha => ?_) fun es => ⟨es.push ⟨.cell a, false, m == .atomic⟩, ?_, push_low (evLow_cell (cell_low hc))⟩
      · have hc' : (Mu.re w τ d).cell? a = some v := hc
        simp only [Sem.run, hc', Nat.sub_self, Nat.add_zero]
      · unfold Sem.events; simp only [Sem.runT, hc]
    | none =>
      cases hf : w.farLoad P a (m == .atomic) with
      | error x =>
        have hx : okHalt x := by
          unfold World.farLoad at hf
          split at hf
          · split at hf
            · cases hf
            · cases hf; trivial
          · cases hf; unfold World.noCell; split <;> trivial
        have e1 : (Sem.load m a k).run P w = .halt x w := by simp only [Sem.run, hc, hf]
        rw [e1]
        refine QR.end_ rfl e1 (fun _ _ e => by cases e) (fun _ _ e => by cases e; exact hx) (fun τ d => ?_) fun es => ?_
        · have hc' : (Mu.re w τ d).cell? a = none := hc
          have hf' : (Mu.re w τ d).farLoad P a (m == .atomic) = .error x := hf
          simp only [Sem.run, hc', hf']; rfl
        · unfold Sem.events; simp only [Sem.runT, hc, hf]
      | ok p =>
        obtain ⟨v, l⟩ := p
        have e1 : (Sem.load m a k).run P w = (k v).run P w := by simp only [Sem.run, hc, hf]
        rw [e1]
        refine QR.step (ih v (h v)) e1 rfl (Nat.le_refl _) (Nat.le_refl _) (fun τ d ha => ?_) fun es => ⟨es ++ l.toArray.map (⟨.cell ·, false, m == .atomic⟩), ?_, app_low (farLoad_low hf)⟩
        · have hc' : (Mu.re w τ d).cell? a = none := hc
          have hf' : (Mu.re w τ d).farLoad P a (m == .atomic) = .ok (v, l) := hf
          simp only [Sem.run, hc', hf', Nat.sub_self, Nat.add_zero]
        · unfold Sem.events; simp only [Sem.runT, hc, hf]
  | store m a v k ih =>
    intro Φ w h
    by_cases hv : v.oneCell' = true
    · have hrun : ∀ u : World, (Sem.store m a v k).run P u = match u.cell? a with
          | some _ => if u.frozen? a then .halt (.unsupported (.unsafePointer "a write to bytes that a string shares")) u else k.run P (u.setCell a v)
          | none => match u.farStore P a v (m == .atomic) with
            | .ok (u, _) => k.run P u
            | .error h => .halt h u := by
        intro u; cases v <;> first | rfl | (simp [Value.oneCell'] at hv)
      have hrunT : ∀ (u : World) es, (Sem.store m a v k).events P u es = match u.cell? a with
          | some _ => if u.frozen? a then es else k.events P (u.setCell a v) (es.push ⟨.cell a, true, m == .atomic⟩)
          | none => match u.farStore P a v (m == .atomic) with
            | .ok (u, l) => k.events P u (es ++ l.toArray.map (⟨.cell ·, true, m == .atomic⟩))
            | .error h => es := by
        intro u es
        cases v <;> first
          | (simp [Value.oneCell'] at hv; done)
          | (unfold Sem.events; simp only [Sem.runT]
             cases u.cell? a with
             | some _ => simp only []; split <;> rfl
             | none =>
               simp only []
               cases u.farStore P a _ (m == .atomic) with
               | ok x => rfl
               | error e => rfl)
      cases hc : w.cell? a with
      | some x =>
        by_cases hfz : w.frozen? a = true
        · have e1 : (Sem.store m a v k).run P w = .halt (.unsupported (.unsafePointer "a write to bytes that a string shares")) w := by rw [hrun, hc]; simp [hfz]
          rw [e1]
          refine QR.end_ rfl e1 (fun _ _ e => by cases e) (fun _ _ e => by cases e; trivial) (fun τ d => ?_) fun es => ?_
          · have hc' : (Mu.re w τ d).cell? a = some x := hc
            have hfz' : (Mu.re w τ d).frozen? a = true := hfz
            rw [hrun, hc']; simp [hfz']; rfl
          · rw [hrunT, hc]; simp [hfz]
        · have hfz : w.frozen? a = false := by simpa using hfz
          have e1 : (Sem.store m a v k).run P w = k.run P (w.setCell a v) := by rw [hrun, hc]; simp [hfz]
          have hsz : (w.setCell a v).heap.size = w.heap.size := by simp [World.setCell]
          rw [e1]
          refine QR.step (ih h) e1 rfl (Nat.le_refl _) (by omega) (fun τ d ha => ?_) fun es => ⟨es.push ⟨.cell a, true, m == .atomic⟩, ?_, push_low (evLow_cell (by rw [hsz]; exact cell_low hc))⟩
          · have hc' : (Mu.re w τ d).cell? a = some x := hc
            have hfz' : (Mu.re w τ d).frozen? a = false := hfz
            rw [hrun, hc']
            simp only [hfz', Bool.false_eq_true, if_false]
            have : (w.setCell a v).drawn - w.drawn = 0 := by show w.drawn - w.drawn = 0; omega
            rw [this]; rfl
          · rw [hrunT, hc]; simp [hfz]
      | none =>
        cases hf : w.farStore P a v (m == .atomic) with
        | error x =>
          have hx : okHalt x := by
            unfold World.farStore at hf
            split at hf
            · split at hf
              · cases hf
              · cases hf; trivial
            · cases hf; unfold World.noCell; split <;> trivial
          have e1 : (Sem.store m a v k).run P w = .halt x w := by rw [hrun, hc]; simp [hf]
          rw [e1]
          refine QR.end_ rfl e1 (fun _ _ e => by cases e) (fun _ _ e => by cases e; exact hx) (fun τ d => ?_) fun es => ?_
          · have hc' : (Mu.re w τ d).cell? a = none := hc
            rw [hrun, hc', farStore_re, hf]; rfl
          · rw [hrunT, hc]; simp [hf]
        | ok p =>
          obtain ⟨w1, l⟩ := p
          have e1 : (Sem.store m a v k).run P w = k.run P w1 := by rw [hrun, hc]; simp [hf]
          obtain ⟨g1, g2, g3, g4⟩ := farStore_low hf
          rw [e1]
          refine QR.step (ih h) e1 g2 (by omega) (by omega) (fun τ d ha => ?_) fun es => ⟨es ++ l.toArray.map (⟨.cell ·, true, m == .atomic⟩), ?_, app_low (by rw [g4]; exact g1)⟩
          · have hc' : (Mu.re w τ d).cell? a = none := hc
            rw [hrun, hc', farStore_re, hf]
            have : w1.drawn - w.drawn = 0 := by omega
            rw [this]; rfl
          · rw [hrunT, hc]; simp [hf]
    · have hrun : ∀ u : World, (Sem.store m a v k).run P u = .halt (.stuck "store: not the value of one cell") u := by
        intro u; cases v <;> first | rfl | (simp [Value.oneCell'] at hv)
      rw [hrun]
      refine QR.end_ rfl (hrun w) (fun _ _ e => by cases e) (fun _ _ e => by cases e; trivial) (fun τ d => hrun _) fun es => ?_
      cases v <;> first | rfl | (simp [Value.oneCell'] at hv)
  | new o k ih =>
    intro Φ w h
    have e1 : (Sem.new o k).run P w = (k w.heap.size).run P { w with heap := w.heap.push o } := rfl
    rw [e1]
    refine QR.step (ih _ (h _)) e1 rfl (Nat.le_refl _) (by simp) (fun τ d ha => ?_) fun es => ⟨es, rfl, fun e he => .inl he⟩
    show (k w.heap.size).run P _ = _
    have : ({ w with heap := w.heap.push o } : World).drawn - w.drawn = 0 := by show w.drawn - w.drawn = 0; omega
    rw [this]; rfl
  | shape r k ih =>
    intro Φ w h
    have e1 : (Sem.shape r k).run P w = (k (w.shape? r)).run P w := rfl
    rw [e1]
    exact QR.step (ih _ (h _)) e1 rfl (Nat.le_refl _) (Nat.le_refl _) (fun τ d ha => by rw [Nat.sub_self]; rfl) fun es => ⟨es, rfl, fun e he => .inl he⟩
  | freeze a n k ih =>
    intro Φ w h
    have e1 : (Sem.freeze a n k).run P w = k.run P (w.freeze a n) := rfl
    have h1 : (w.freeze a n).tape = w.tape ∧ (w.freeze a n).drawn = w.drawn ∧ (w.freeze a n).heap.size = w.heap.size := by
      unfold World.freeze; split
      · exact ⟨rfl, rfl, rfl⟩
      · exact ⟨rfl, rfl, by simp⟩
    rw [e1]
    refine QR.step (ih h) e1 h1.1 (by omega) (by omega) (fun τ d ha => ?_) fun es => ⟨es, rfl, fun e he => .inl he⟩
    have e2 : (Mu.re w τ d).freeze a n = Mu.re (w.freeze a n) τ d := by
      unfold World.freeze; split <;> rfl
    show k.run P ((Mu.re w τ d).freeze a n) = _
    rw [e2, h1.2.1, Nat.sub_self]; rfl
  | frozen a k ih =>
    intro Φ w h
    have e1 : (Sem.frozen a k).run P w = (k (w.frozen? a)).run P w := rfl
    rw [e1]
    exact QR.step (ih _ (h _)) e1 rfl (Nat.le_refl _) (Nat.le_refl _) (fun τ d ha => by rw [Nat.sub_self]; rfl) fun es => ⟨es, rfl, fun e he => .inl he⟩
  | getObj r k ih =>
    intro Φ w h
    cases ho : w.heap[r]? with
    | none =>
      have e1 : ∀ u : World, u.heap = w.heap → (Sem.getObj r k).run P u = .halt (.stuck "getObj: no such block") u := fun u hu => by simp only [Sem.run, hu, ho]
      rw [e1 w rfl]
      refine QR.end_ rfl (e1 w rfl) (fun _ _ e => by cases e) (fun _ _ e => by cases e; trivial) (fun τ d => e1 _ rfl) fun es => ?_
      unfold Sem.events; simp only [Sem.runT, ho]
    | some o =>
      by_cases hcl : ∃ c T f, o = .cells c T f
      · obtain ⟨c, T, f, rfl⟩ := hcl
        have e1 : ∀ u : World, u.heap = w.heap → (Sem.getObj r k).run P u = .halt (.stuck "getObj: a row of cells") u := fun u hu => by simp only [Sem.run, hu, ho]
        rw [e1 w rfl]
        refine QR.end_ rfl (e1 w rfl) (fun _ _ e => by cases e) (fun _ _ e => by cases e; trivial) (fun τ d => e1 _ rfl) fun es => ?_
        unfold Sem.events; simp only [Sem.runT, ho]
      · have e1 : ∀ u : World, u.heap = w.heap → (Sem.getObj r k).run P u = (k o).run P u := fun u hu => by
          simp only [Sem.run, hu, ho]
          cases o <;> first | rfl | exact (hcl ⟨_, _, _, rfl⟩).elim
        rw [e1 w rfl]
        refine QR.step (ih _ (h _)) (e1 w rfl) rfl (Nat.le_refl _) (Nat.le_refl _) (fun τ d ha => by rw [Nat.sub_self]; exact e1 _ rfl) fun es => ⟨es.push ⟨.obj r, false, o.isChan⟩, ?_, push_low (evLow_obj (Array.getElem?_eq_some_iff.1 ho).1)⟩
        unfold Sem.events; simp only [Sem.runT, ho]
        cases o <;> first | rfl | exact (hcl ⟨_, _, _, rfl⟩).elim
  | setObj r o k ih =>
    intro Φ w h
    cases ho : w.heap[r]? with
    | none =>
      have e1 : ∀ u : World, u.heap = w.heap → (Sem.setObj r o k).run P u = .halt (.stuck "setObj: no such block") u := fun u hu => by simp only [Sem.run, hu, ho]
      rw [e1 w rfl]
      refine QR.end_ rfl (e1 w rfl) (fun _ _ e => by cases e) (fun _ _ e => by cases e; trivial) (fun τ d => e1 _ rfl) fun es => ?_
      unfold Sem.events; simp only [Sem.runT, ho]
    | some o' =>
      by_cases hcl : ∃ c T f, o' = .cells c T f
      · obtain ⟨c, T, f, rfl⟩ := hcl
        have e1 : ∀ u : World, u.heap = w.heap → (Sem.setObj r o k).run P u = .halt (.stuck "setObj: a row of cells") u := fun u hu => by simp only [Sem.run, hu, ho]
        rw [e1 w rfl]
        refine QR.end_ rfl (e1 w rfl) (fun _ _ e => by cases e) (fun _ _ e => by cases e; trivial) (fun τ d => e1 _ rfl) fun es => ?_
        unfold Sem.events; simp only [Sem.runT, ho]
      · have e1 : ∀ u : World, u.heap = w.heap → (Sem.setObj r o k).run P u = k.run P { u with heap := u.heap.setIfInBounds r o } := fun u hu => by
          simp only [Sem.run, hu, ho]
          cases o' <;> first | rfl | exact (hcl ⟨_, _, _, rfl⟩).elim
        rw [e1 w rfl]
        refine QR.step (ih h) (e1 w rfl) rfl (Nat.le_refl _) (by simp) (fun τ d ha => ?_) fun es => ⟨es.push ⟨.obj r, true, o.isChan⟩, ?_, push_low (evLow_obj (by simpa using (Array.getElem?_eq_some_iff.1 ho).1))⟩
        · rw [e1 (Mu.re w τ d) rfl]
          have : ({ w with heap := w.heap.setIfInBounds r o } : World).drawn - w.drawn = 0 := by show w.drawn - w.drawn = 0; omega
          rw [this]; rfl
        · unfold Sem.events; simp only [Sem.runT, ho]
          cases o' <;> first | rfl | exact (hcl ⟨_, _, _, rfl⟩).elim
  | choose q k ih =>
    intro Φ w h
    by_cases hf : q.forced = true
    · have e1 : ∀ u : World, (Sem.choose q k).run P u = (k 0).run P u := fun u => by simp only [Sem.run, hf, if_true]
      rw [e1 w]
      refine QR.step (ih _ (h _)) (e1 w) rfl (Nat.le_refl _) (Nat.le_refl _) (fun τ d ha => by rw [Nat.sub_self]; exact e1 _) fun es => ⟨es, ?_, fun e he => .inl he⟩
      unfold Sem.events; simp only [Sem.runT, hf, if_true]
    · have e1 : ∀ u : World, (Sem.choose q k).run P u = (k (q.cut (u.tape u.drawn q))).run P { u with drawn := u.drawn + 1 } := fun u => by simp only [Sem.run, hf]; rfl
      rw [e1 w]
      refine QR.step (ih _ (h _)) (e1 w) rfl (Nat.le_add_right _ _) (Nat.le_refl _) (fun τ d ha => ?_) fun es => ⟨es, ?_, fun e he => .inl he⟩
      · have hk : ({ w with drawn := w.drawn + 1 } : World).drawn - w.drawn = 1 := by show w.drawn + 1 - w.drawn = 1; omega
        rw [hk] at ha ⊢
        have h0 := ha 0 (by omega)
        rw [e1]
        show (k (q.cut (τ d q))).run P _ = _
        simp only [Nat.add_zero] at h0
        rw [h0]; rfl
      · unfold Sem.events; simp only [Sem.runT, hf]; rfl
  | sys c k ih => intro Φ w h; exact h.elim
  | program k ih =>
    intro Φ w h
    exact QR.step (ih P h) rfl rfl (Nat.le_refl _) (Nat.le_refl _) (fun τ d ha => by rw [Nat.sub_self]; rfl) fun es => ⟨es, rfl, fun e he => .inl he⟩
  | mark m k ih =>
    intro Φ w h
    obtain ⟨rfl, h⟩ := h
    exact QR.step (ih h) rfl rfl (Nat.le_refl _) (Nat.le_refl _) (fun τ d ha => by rw [Nat.sub_self]; rfl) fun es => ⟨es.push ⟨.mark .noRoom, false, true⟩, rfl, push_low evLow_mark⟩
  | halt h => intro Φ w h; exact QR.end_ rfl rfl (fun _ _ e => by cases e) (fun _ _ e => by cases e; exact h) (fun τ d => rfl) fun es => rfl
end Go.Mu
namespace Go.Mu
open Go Go.Conc
def OkNext (L : FuncId → Bool) : Next → Prop
 | .value _ | .skip => True
 | .enter f _ => L f = true
 | _ => False
def OkOper (P : Program) (L : FuncId → Bool) (o : Oper) : Prop := (∀ fr : Frame, Qt P (execOp fr.eval o) (OkNext L)) ∧ ∀ c, o.op ≠ .defer c
def OkCode (P : Program) (L : FuncId → Bool) : Code → Prop
 | .region _ ops _ => ∀ o ∈ ops, OkOper P L o
 | .seq a b | .cond _ a b => OkCode P L a ∧ OkCode P L b
 | .block _ c | .loop c | .scope c => OkCode P L c
 | .skip | .label _ | .exit _ | .goto _ | .ret => True
 | .refuse _ => True
 | .rangeFunc .. => False
def OkItem (P : Program) (L : FuncId → Bool) : Item → Prop
 | .code c | .inLoop c | .inScope c => OkCode P L c
 | .inBlock _ => True
 | .inRegion ops _ => ∀ o ∈ ops, OkOper P L o
 | _ => False
def OkRes (P : Program) (fn : Func) : Prop := ∀ tmps, ∃ v, ∀ w, (results fn tmps).run P w = .ok v w ∧ ∀ es, (results fn tmps).events P w es = es
theorem OkRes.of_flat {P : Program} {fn : Func} (h : fn.results = #[] ∨ (∃ t, fn.results = #[.tmp t]) ∨ ∃ t u, fn.results = #[.tmp t, .tmp u]) : OkRes P fn := fun tmps => by
 rcases h with h | ⟨t, h⟩ | ⟨t, u, h⟩
 ·exact ⟨_, fun w => ⟨results_none h _ P w, events_results_none h _⟩⟩
 ·exact ⟨_, fun w => ⟨results_tmp h _ P w, events_results_tmp h _⟩⟩
 ·exact ⟨_, fun w => ⟨results_tmp2 h _ P w, events_results_tmp2 h _⟩⟩
structure LOK (P : Program) (L : FuncId → Bool) : Prop where
 fn : ∀ f, L f = true → ∃ fn c, P.funcs[f]? = some fn ∧ (fn.name == "runtime.NumGoroutine") = false ∧ fn.body = some c ∧ OkCode P L c ∧ OkRes P fn
 step : ∀ g, P.stepOf g = none
 ahead : P.follows .staticDataAhead = true
structure PlainF (P : Program) (L : FuncId → Bool) (fr : Frame) : Prop where
 fn : L fr.fn = true
 todo : ∀ x ∈ fr.todo, OkItem P L x
 defers : fr.defers = []
 round : fr.roundOf = none
 kind : fr.kind = .normal
def mkCs (kd : CallKind) (cs : List Frame) : List Frame → List Frame
 | [] => cs
 | [c] => { c with kind := kd } :: cs
 | c :: r => c :: mkCs kd cs r
def mkFr (kd : CallKind) (fr : Frame) : List Frame → Frame
 | [] => { fr with kind := kd }
 | _ :: _ => fr
def mkG (kd : CallKind) (cs : List Frame) (fr : Frame) (rest : List Frame) : Goroutine := G (mkFr kd fr rest) (mkCs kd cs rest)
structure Moves (P : Program) (fr : Frame) (rest : List Frame) (w : World) (fr' : Frame) (rest' : List Frame) (w' : World) : Prop where
 dr : w.drawn ≤ w'.drawn
 tape : w'.tape = w.tape
 size : w.heap.size ≤ w'.heap.size
 go : ∀ τ d, Agree w τ d (w'.drawn - w.drawn) → ∀ kd cs, ∃ es, stepG P true (mkG kd cs fr rest) (re w τ d) = .go (mkG kd cs fr' rest') (re w' τ (d + (w'.drawn - w.drawn))) es ∧ ∀ e ∈ es, EvLow w'.heap.size e
def Dies (P : Program) (fr : Frame) (rest : List Frame) (w : World) : Prop :=
 ∀ τ d, (∀ k, Agree w τ d k) → ∀ kd cs, ∃ o w' es, stepG P true (mkG kd cs fr rest) (re w τ d) = .ended o w' es
theorem agree_self (w : World) (k : Nat) : Agree w w.tape w.drawn k := fun j hj => rfl
theorem Moves.plain {P : Program} {fr : Frame} {rest : List Frame} {w : World} {fr' : Frame} {rest' : List Frame} {w' : World} (h : Moves P fr rest w fr' rest' w') (kd : CallKind) (cs : List Frame) : ∃ es, stepG P true (mkG kd cs fr rest) w = .go (mkG kd cs fr' rest') w' es ∧ ∀ e ∈ es, EvLow w'.heap.size e := by
 obtain ⟨es, h1, h2⟩ := h.go w.tape w.drawn (agree_self _ _) kd cs
 have e : re w' w.tape (w.drawn + (w'.drawn - w.drawn)) = w' := by
  have := h.dr
  rw [show w.drawn + (w'.drawn - w.drawn) = w'.drawn by omega, ← h.tape]; rfl
 rw [e] at h1
 exact ⟨es, h1, h2⟩
variable {P : Program} {L : FuncId → Bool} {fr : Frame} {rest : List Frame} {w : World}
theorem Moves.still {fr' : Frame} {rest' : List Frame} (h : ∀ w kd cs, stepG P true (mkG kd cs fr rest) w = .go (mkG kd cs fr' rest') w #[]) : Moves P fr rest w fr' rest' w :=
 ⟨Nat.le_refl _, rfl, Nat.le_refl _, fun τ d _ kd cs => ⟨#[], by rw [Nat.sub_self, Nat.add_zero]; exact h _ _ _, fun e he => by simp at he⟩⟩
theorem Dies.still (h : ∀ w kd cs, ∃ o w' es, stepG P true (mkG kd cs fr rest) w = .ended o w' es) : Dies P fr rest w := fun τ d _ kd cs => h _ _ _
theorem exec_run {kd : CallKind} {cs : List Frame} (hm : fr.mode = .run) (u : World) : stepG P true (mkG kd cs fr rest) u = stepG.exec P true true (mkFr kd fr rest) (mkCs kd cs rest) none u := by
 unfold mkG G stepG
 have : (mkFr kd fr rest).mode = .run := by cases rest <;> exact hm
 simp only [this]
@[simp] theorem mkFr_todo {kd : CallKind} : (mkFr kd fr rest).todo = fr.todo := by cases rest <;> rfl
@[simp] theorem mkFr_tmps {kd : CallKind} : (mkFr kd fr rest).tmps = fr.tmps := by cases rest <;> rfl
@[simp] theorem mkFr_fn {kd : CallKind} : (mkFr kd fr rest).fn = fr.fn := by cases rest <;> rfl
@[simp] theorem mkFr_defers {kd : CallKind} : (mkFr kd fr rest).defers = fr.defers := by cases rest <;> rfl
@[simp] theorem mkFr_round {kd : CallKind} : (mkFr kd fr rest).roundOf = fr.roundOf := by cases rest <;> rfl
@[simp] theorem mkFr_mode {kd : CallKind} : (mkFr kd fr rest).mode = fr.mode := by cases rest <;> rfl
@[simp] theorem mkFr_eval {kd : CallKind} : (mkFr kd fr rest).eval = fr.eval := by cases rest <;> rfl
theorem mkFr_with {kd : CallKind} {todo : List Item} : ({ mkFr kd fr rest with todo := todo } : Frame) = mkFr kd { fr with todo := todo } rest := by cases rest <;> rfl
theorem mkFr_ret {kd : CallKind} : ({ mkFr kd fr rest with mode := .returning } : Frame) = mkFr kd { fr with mode := .returning } rest := by cases rest <;> rfl
theorem PlainF.with (h : PlainF P L fr) {todo : List Item} (ht : ∀ x ∈ todo, OkItem P L x) : PlainF P L { fr with todo := todo } := ⟨h.fn, ht, h.defers, h.round, h.kind⟩
theorem exitTo_ok {id : Nat} : ∀ {k k' : List Item}, exitTo id k = some k' → (∀ x ∈ k, OkItem P L x) → ∀ x ∈ k', OkItem P L x
 | [], k', h, _ => by simp [exitTo] at h
 | x :: k, k', h, hk => by
  have hk' : ∀ y ∈ k, OkItem P L y := fun y hy => hk y (by simp [hy])
  cases x with
  | inBlock id' =>
   simp only [exitTo] at h
   split at h
   ·cases h; exact hk'
   ·exact exitTo_ok h hk'
  | _ => exact exitTo_ok (by simpa [exitTo] using h) hk'
theorem findLabel_ok {l : Nat} : ∀ {c c' : Code}, findLabel c l = some c' → OkCode P L c → OkCode P L c'
 | .seq a b, c', h, hc => by
  simp only [findLabel] at h
  split at h
  ·rename_i x hx; cases h; exact ⟨findLabel_ok hx hc.1, hc.2⟩
  ·exact findLabel_ok h hc.2
 | .label l', c', h, hc => by
  simp only [findLabel] at h
  split at h
  ·cases h; trivial
  ·cases h
 | .skip, _, h, _ | .region .., _, h, _ | .cond .., _, h, _ | .block .., _, h, _ | .loop _, _, h, _ | .rangeFunc .., _, h, _ | .exit _, _, h, _ | .scope _, _, h, _ | .goto _, _, h, _ | .ret, _, h, _ | .refuse _, _, h, _ => by simp [findLabel] at h
theorem gotoIn_ok {l : Nat} : ∀ {k k' : List Item}, gotoIn l k = some k' → (∀ x ∈ k, OkItem P L x) → ∀ x ∈ k', OkItem P L x
 | [], k', h, _ => by simp [gotoIn] at h
 | x :: k, k', h, hk => by
  have hk' : ∀ y ∈ k, OkItem P L y := fun y hy => hk y (by simp [hy])
  cases x with
  | inScope body =>
   simp only [gotoIn] at h
   split at h
   ·rename_i c hc
    cases h
    have hb : OkCode P L body := hk (.inScope body) (by simp)
    intro y hy
    rcases List.mem_cons.1 hy with rfl | hy
    ·exact findLabel_ok hc hb
    ·rcases List.mem_cons.1 hy with rfl | hy
     ·exact hb
     ·exact hk' y hy
   ·exact gotoIn_ok h hk'
  | _ => exact gotoIn_ok (by simpa [gotoIn] using h) hk'
def Comes1 (P : Program) (L : FuncId → Bool) (fr : Frame) (rest : List Frame) (w : World) : Prop :=
 (∃ fr' rest' w', PlainF P L fr' ∧ (∀ x ∈ rest', PlainF P L x) ∧ ((fr' :: rest').getLast?.map (·.fn) = (fr :: rest).getLast?.map (·.fn)) ∧ Moves P fr rest w fr' rest' w') ∨ Dies P fr rest w
theorem Comes1.to (h : PlainF P L fr) (hr : ∀ x ∈ rest, PlainF P L x) (hm : fr.mode = .run) {todo : List Item} (ht : ∀ x ∈ todo, OkItem P L x)
  (hs : ∀ (f : Frame) (cs : List Frame) (u : World), f.todo = fr.todo → f.fn = fr.fn → f.tmps = fr.tmps → f.roundOf = none → stepG.exec P true true f cs none u = .go (G { f with todo := todo } cs) u #[]) : Comes1 P L fr rest w := by
 refine .inl ⟨{ fr with todo := todo }, rest, w, h.with ht, hr, ?_, .still fun u kd cs => ?_⟩
 ·cases rest <;> simp [List.getLast?_cons]
 ·rw [exec_run hm, hs _ _ _ mkFr_todo mkFr_fn mkFr_tmps (by rw [mkFr_round]; exact h.round), mkG, mkFr_with]
theorem Comes1.leave (h : PlainF P L fr) (hr : ∀ x ∈ rest, PlainF P L x) (hm : fr.mode = .run)
  (hs : ∀ (f : Frame) (cs : List Frame) (u : World), f.todo = fr.todo → f.fn = fr.fn → f.tmps = fr.tmps → f.roundOf = none → stepG.exec P true true f cs none u = .go (G { f with mode := .returning } cs) u #[]) : Comes1 P L fr rest w := by
 refine .inl ⟨{ fr with mode := .returning }, rest, w, ⟨h.fn, h.todo, h.defers, h.round, h.kind⟩, hr, ?_, .still fun u kd cs => ?_⟩
 ·cases rest <;> simp [List.getLast?_cons]
 ·rw [exec_run hm, hs _ _ _ mkFr_todo mkFr_fn mkFr_tmps (by rw [mkFr_round]; exact h.round), mkG, mkFr_ret]
theorem Comes1.dies (hm : fr.mode = .run) (h : PlainF P L fr)
  (hs : ∀ (f : Frame) (cs : List Frame) (u : World), f.todo = fr.todo → f.fn = fr.fn → f.tmps = fr.tmps → f.roundOf = none → ∃ o w' es, stepG.exec P true true f cs none u = .ended o w' es) : Comes1 P L fr rest w := by
 refine .inr (.still fun u kd cs => ?_)
 rw [exec_run hm]
 exact hs _ _ _ mkFr_todo mkFr_fn mkFr_tmps (by rw [mkFr_round]; exact h.round)
end Go.Mu
namespace Go.Mu
open Go Go.Conc
variable {P : Program} {L : FuncId → Bool} {fr : Frame} {rest : List Frame} {w : World}
theorem mkCs_cons {kd : CallKind} {cs : List Frame} {c : Frame} : mkCs kd cs (c :: rest) = mkFr kd c rest :: mkCs kd cs rest := by cases rest <;> rfl
theorem finish_kind {kd : CallKind} {v : Value} : ({ fr with kind := kd } : Frame).finish v = { fr.finish v with kind := kd } := by
 unfold Frame.finish; split <;> simp_all
theorem mkFr_finish {kd : CallKind} {v : Value} : (mkFr kd fr rest).finish v = mkFr kd (fr.finish v) rest := by
 cases rest
 ·exact finish_kind
 ·rfl
theorem raise_kind {kd : CallKind} {v : List PanicEntry} : ({ fr with kind := kd } : Frame).raise v = { fr.raise v with kind := kd } := by
 unfold Frame.raise; split <;> simp_all
theorem mkFr_raise {kd : CallKind} {v : List PanicEntry} : (mkFr kd fr rest).raise v = mkFr kd (fr.raise v) rest := by
 cases rest
 ·exact raise_kind
 ·rfl
theorem PlainF.finish (h : PlainF P L fr) (v : Value) : PlainF P L (fr.finish v) ∧ (fr.finish v).fn = fr.fn := by
 unfold Frame.finish
 split
 ·rename_i ops i l k ht
  exact ⟨⟨h.fn, fun x hx => by
   rcases List.mem_cons.1 hx with rfl | hx
   ·exact h.todo (.inRegion ops (i :: l)) (by rw [ht]; simp)
   ·exact h.todo x (by rw [ht]; simp [hx]), h.defers, h.round, h.kind⟩, rfl⟩
 ·rename_i l k ht; exact absurd (h.todo (.inRangeFunc l) (by rw [ht]; simp)) id
 ·rename_i k ht; exact absurd (h.todo .beginRound (by rw [ht]; simp)) id
 ·rename_i a b c d k ht; exact absurd (h.todo (.call a b c d) (by rw [ht]; simp)) id
 ·rename_i a b k ht; exact absurd (h.todo _ (by rw [ht]; exact List.mem_cons_self)) id
 ·exact ⟨h, rfl⟩
theorem PlainF.raise (h : PlainF P L fr) (v : List PanicEntry) : PlainF P L (fr.raise v) ∧ (fr.raise v).fn = fr.fn := by
 unfold Frame.raise
 split <;> exact ⟨⟨h.fn, h.todo, h.defers, h.round, h.kind⟩, rfl⟩
theorem last_fn {fr' : Frame} (h : fr'.fn = fr.fn) : ((fr' :: rest).getLast?.map (·.fn) = (fr :: rest).getLast?.map (·.fn)) := by
 cases rest <;> simp [List.getLast?_cons, h]
theorem PlainF.enter (hL : LOK P L) {f : FuncId} (hf : L f = true) (args : Array Value) : PlainF P L (Frame.enter P f args .normal) := by
 obtain ⟨fn, c, h1, h2, h3, h4, h5⟩ := hL.fn f hf
 refine ⟨hf, fun x hx => ?_, rfl, rfl, rfl⟩
 have : x = .code c := by simpa [Frame.enter, h1, h3] using hx
 subst this; exact h4
theorem ok_cons {a : Item} {k : List Item} (ha : OkItem P L a) (hk : ∀ y ∈ k, OkItem P L y) : ∀ y ∈ a :: k, OkItem P L y := fun y hy => by
 rcases List.mem_cons.1 hy with rfl | hy
 ·exact ha
 ·exact hk y hy
theorem mem_seen_low {es : Array Event} {B : Nat} {fn : FuncId} (h : ∀ e ∈ es, EvLow B e) : ∀ e ∈ seen P fn es, EvLow B e := fun e he => h e (mem_seen he)
theorem step_op (hL : LOK P L) (h : PlainF P L fr) (hr : ∀ x ∈ rest, PlainF P L x) (hm : fr.mode = .run) {ops : Array Oper} {i : Nat} {l : List Nat} {k : List Item} (ht : fr.todo = .inRegion ops (i :: l) :: k) : Comes1 P L fr rest w := by
 by_cases hw : ((ops[i]?).map (Region.wanted · (yielded ops fr.tmps))).getD false = true
 ·obtain ⟨o, ho⟩ : ∃ o, ops[i]? = some o := by
   cases e : ops[i]? with
   | none => rw [e] at hw; simp at hw
   | some o => exact ⟨o, rfl⟩
  have hoo : OkOper P L o := h.todo (.inRegion ops (i :: l)) (by rw [ht]; simp) o (Array.mem_of_getElem? ho)
  -- the step is that of 'apply'
  have hstep : ∀ (u : World) (kd : CallKind) (cs : List Frame), stepG P true (mkG kd cs fr rest) u = stepG.apply P true (mkFr kd fr rest) (mkCs kd cs rest) none (execOp fr.eval o) u := by
   intro u kd cs
   rw [exec_run hm]
   have e1 : (mkFr kd fr rest).oper? = some o := by unfold Frame.oper?; rw [mkFr_todo, ht]; exact ho
   unfold stepG.exec
   simp only [mkFr_todo, ht, mkFr_tmps, hw, if_true]
   unfold stepG.oper
   simp only [e1, mkFr_round, h.round, mkFr_eval]
  have hq : ∀ u, QR P (execOp fr.eval o) (OkNext L) u ((execOp fr.eval o).run P u) := fun u => (hoo.1 _).run
  have hq0 := hq w
  generalize hr0 : (execOp fr.eval o).run P w = r0 at hq0
  have hev : ∀ τ d, Agree w τ d ((Result.at' r0).drawn - w.drawn) → (execOp fr.eval o).run P (re w τ d) = Result.reR r0 τ (d + ((Result.at' r0).drawn - w.drawn)) ∧
    ∀ e ∈ (execOp fr.eval o).events P (re w τ d) #[], EvLow (Result.at' r0).heap.size e := fun τ d ha => by
   have e1 := hq0.re τ d ha
   refine ⟨e1, fun e he => ?_⟩
   have := (hq (re w τ d)).evs #[] e he
   rw [e1] at this
   rcases this with g | g
   ·simp at g
   ·revert g
    cases r0 <;> exact id
  have kindE : ∀ kd : CallKind, (match (mkFr kd fr rest).todo with | .call _ true _ _ :: _ => CallKind.wrapped | _ => .normal) = .normal := fun kd => by rw [mkFr_todo, ht]
  have esL : ∀ (kd : CallKind) (B : Nat) (es : Array Event), (∀ e ∈ es, EvLow B e) → ∀ e ∈ seen P (mkFr kd fr rest).fn (if (mkFr kd fr rest).kind == .early then #[] else es), EvLow B e := fun kd B es he => mem_seen_low (by intro e hh; split at hh <;> first | (simp at hh; done) | exact he e hh)
  cases r0 with
  | ok x w' =>
   have hx := hq0.ok x w' rfl
   cases x with
   | value v =>
    refine .inl ⟨fr.finish v, rest, w', (h.finish v).1, hr, last_fn (h.finish v).2, hq0.dr, hq0.tape, hq0.size, fun τ d ha kd cs => ?_⟩
    obtain ⟨e1, e2⟩ := hev τ d ha
    refine ⟨_, ?_, esL kd _ _ e2⟩
    rw [hstep]; unfold stepG.apply
    simp only [Sem.runT_eq, e1, Result.reR, if_true, GStep.after, mkFr_finish]
    simp only [mkG, G, Array.append_empty]; rfl
   | skip =>
    refine .inl ⟨fr.finish undef, rest, w', (h.finish undef).1, hr, last_fn (h.finish undef).2, hq0.dr, hq0.tape, hq0.size, fun τ d ha kd cs => ?_⟩
    obtain ⟨e1, e2⟩ := hev τ d ha
    refine ⟨_, ?_, esL kd _ _ e2⟩
    rw [hstep]; unfold stepG.apply
    simp only [Sem.runT_eq, e1, Result.reR, if_true, GStep.after, mkFr_finish]
    simp only [mkG, G, Array.append_empty]; rfl
   | enter f args =>
    refine .inl ⟨Frame.enter P f args .normal, fr :: rest, w', .enter hL hx args, fun x hx => ?_, ?_, hq0.dr, hq0.tape, hq0.size, fun τ d ha kd cs => ?_⟩
    ·rcases List.mem_cons.1 hx with rfl | hx
     ·exact h
     ·exact hr x hx
    ·simp [List.getLast?_cons]
    obtain ⟨e1, e2⟩ := hev τ d ha
    refine ⟨_, ?_, esL kd _ _ e2⟩
    rw [hstep]; unfold stepG.apply
    simp only [Sem.runT_eq, e1, Result.reR, if_true, GStep.after, mkFr_todo, ht]
    simp only [mkG, G, Array.append_empty, mkCs_cons]; rfl
   | _ => exact hx.elim
  | halt x w' =>
   have hx := hq0.halt x w' rfl
   have hdie : (∀ τ d kd cs, (execOp fr.eval o).run P (re w τ d) = .halt x (re w' τ (d + (w'.drawn - w.drawn))) → ∃ o' w1 es, stepG.apply P true (mkFr kd fr rest) (mkCs kd cs rest) none (execOp fr.eval o) (re w τ d) = .ended o' w1 es) → Comes1 P L fr rest w := fun hd =>
    .inr fun τ d ha kd cs => by rw [hstep]; exact hd τ d kd cs (hev τ d (ha _)).1
   cases x with
   | panic v =>
    refine .inl ⟨fr.raise [{ v, recovered := false }], rest, w', (h.raise _).1, hr, last_fn (h.raise _).2, hq0.dr, hq0.tape, hq0.size, fun τ d ha kd cs => ?_⟩
    obtain ⟨e1, e2⟩ := hev τ d ha
    refine ⟨_, ?_, esL kd _ _ e2⟩
    rw [hstep]; unfold stepG.apply
    simp only [Sem.runT_eq, e1, Result.reR, if_true, GStep.after, mkFr_raise]
    simp only [mkG, G, Array.append_empty]; rfl
   | unsupported u =>
    refine hdie fun τ d kd cs e1 => ?_
    unfold stepG.apply
    simp only [Sem.runT_eq, e1, if_true]
    cases u with
    | initOrder g =>
     simp only [early, hL.ahead, hL.step, Bool.not_true, Bool.false_eq_true, if_false, GStep.after]
     exact ⟨_, _, _, rfl⟩
    | _ => simp only [GStep.after]; exact ⟨_, _, _, rfl⟩
   | stuck s =>
    refine hdie fun τ d kd cs e1 => ?_
    unfold stepG.apply
    simp only [Sem.runT_eq, e1, if_true, GStep.after]
    exact ⟨_, _, _, rfl⟩
   | _ => exact hx.elim
 ·refine .inl ⟨fr.finish undef, rest, w, (h.finish undef).1, hr, last_fn (h.finish undef).2, .still fun u kd cs => ?_⟩
  rw [exec_run hm]
  unfold stepG.exec
  simp only [mkFr_todo, ht, mkFr_tmps, hw, mkFr_finish]
  rfl
theorem step_plain (hL : LOK P L) (h : PlainF P L fr) (hr : ∀ x ∈ rest, PlainF P L x) (hb : rest = [] → fr.mode = .run) : Comes1 P L fr rest w := by
 cases hm : fr.mode with
 | run =>
  cases ht : fr.todo with
  | nil =>
   refine .leave h hr hm fun f cs u h1 h2 h3 h4 => ?_
   unfold stepG.exec
   simp only [h1, ht, h4]; rfl
  | cons x k =>
   have hk : ∀ y ∈ k, OkItem P L y := fun y hy => h.todo y (by rw [ht]; simp [hy])
   have hx : OkItem P L x := h.todo x (by rw [ht]; simp)
   cases x with
   | inBlock id => exact .to h hr hm hk fun f cs u h1 h2 h3 h4 => by unfold stepG.exec; simp only [h1, ht]; rfl
   | inScope c => exact .to h hr hm hk fun f cs u h1 h2 h3 h4 => by unfold stepG.exec; simp only [h1, ht]; rfl
   | inLoop c => exact .to h hr hm (todo := .code c :: .inLoop c :: k) (ok_cons hx (ok_cons hx hk)) fun f cs u h1 h2 h3 h4 => by unfold stepG.exec; simp only [h1, ht]; rfl
   | inRegion ops l =>
    cases l with
    | nil => exact .to h hr hm hk fun f cs u h1 h2 h3 h4 => by unfold stepG.exec; simp only [h1, ht]; rfl
    | cons i l => exact step_op hL h hr hm ht
   | code c =>
    cases c with
    | skip => exact .to h hr hm hk fun f cs u h1 h2 h3 h4 => by unfold stepG.exec; simp only [h1, ht]; rfl
    | label l => exact .to h hr hm hk fun f cs u h1 h2 h3 h4 => by unfold stepG.exec; simp only [h1, ht]; rfl
    | seq a b => exact .to h hr hm (todo := .code a :: .code b :: k) (ok_cons hx.1 (ok_cons hx.2 hk)) fun f cs u h1 h2 h3 h4 => by unfold stepG.exec; simp only [h1, ht]; rfl
    | block id a => exact .to h hr hm (todo := .code a :: .inBlock id :: k) (ok_cons hx (ok_cons trivial hk)) fun f cs u h1 h2 h3 h4 => by unfold stepG.exec; simp only [h1, ht]; rfl
    | loop a => exact .to h hr hm (todo := .code a :: .inLoop a :: k) (ok_cons hx (ok_cons hx hk)) fun f cs u h1 h2 h3 h4 => by unfold stepG.exec; simp only [h1, ht]; rfl
    | scope a => exact .to h hr hm (todo := .code a :: .inScope a :: k) (ok_cons hx (ok_cons hx hk)) fun f cs u h1 h2 h3 h4 => by unfold stepG.exec; simp only [h1, ht]; rfl
    | ret =>
     refine .leave h hr hm fun f cs u h1 h2 h3 h4 => ?_
     unfold stepG.exec
     simp only [h1, ht, h4]; rfl
    | refuse why => exact .dies hm h fun f cs u h1 h2 h3 h4 => by unfold stepG.exec; simp only [h1, ht]; exact ⟨_, _, _, rfl⟩
    | rangeFunc a b c d => exact hx.elim
    | exit id =>
     cases he : exitTo id k with
     | some k' => exact .to h hr hm (exitTo_ok he hk) fun f cs u h1 h2 h3 h4 => by unfold stepG.exec; simp only [h1, ht, he]; rfl
     | none => exact .dies hm h fun f cs u h1 h2 h3 h4 => by unfold stepG.exec; simp only [h1, ht, he, h4]; exact ⟨_, _, _, rfl⟩
    | goto id =>
     cases he : gotoIn id k with
     | some k' => exact .to h hr hm (gotoIn_ok he hk) fun f cs u h1 h2 h3 h4 => by unfold stepG.exec; simp only [h1, ht, he]; rfl
     | none => exact .dies hm h fun f cs u h1 h2 h3 h4 => by unfold stepG.exec; simp only [h1, ht, he, h4]; exact ⟨_, _, _, rfl⟩
    | cond c a b =>
     by_cases hc : ∃ t, fr.eval c = .bool t
     ·obtain ⟨t, hc⟩ := hc
      refine .to h hr hm (todo := .code (if t then a else b) :: k) (ok_cons (by cases t <;> first | exact hx.2 | exact hx.1) hk) fun f cs u h1 h2 h3 h4 => ?_
      have hc' : f.eval c = .bool t := by rw [← hc]; cases c <;> simp [Frame.eval, h3]
      unfold stepG.exec; simp only [h1, ht, hc']; rfl
     ·refine .dies hm h fun f cs u h1 h2 h3 h4 => ?_
      have hc' : f.eval c = fr.eval c := by cases c <;> simp [Frame.eval, h3]
      unfold stepG.exec; simp only [h1, ht, hc']
      split
      ·rename_i t hb; exact absurd ⟨t, hb⟩ hc
      ·exact ⟨_, _, _, rfl⟩
    | region id ops draw =>
     have hx' : ∀ o ∈ ops, OkOper P L o := hx
     have hk2 : ∀ l : List Nat, ∀ y ∈ (.inRegion ops l :: k : List Item), OkItem P L y := fun l => ok_cons hx' hk
     cases draw with
     | false => exact .to h hr hm (hk2 (List.range ops.size)) fun f cs u h1 h2 h3 h4 => by unfold stepG.exec; simp only [h1, ht]; rfl
     | true =>
      have hq : (Question.order fr.fn id).forced = false := rfl
      refine .inl ⟨{ fr with todo := .inRegion ops (Region.schedule (P.follows .mixedOrders) ops ((Question.order fr.fn id).cut (w.tape w.drawn (.order fr.fn id)))) :: k }, rest, { w with drawn := w.drawn + 1 }, h.with (hk2 _), hr, last_fn rfl, Nat.le_add_right _ _, rfl, Nat.le_refl _, fun τ d ha kd cs => ⟨#[], ?_, fun e he => by simp at he⟩⟩
      have hk1 : ({ w with drawn := w.drawn + 1 } : World).drawn - w.drawn = 1 := by show w.drawn + 1 - w.drawn = 1; omega
      rw [hk1] at ha ⊢
      have h0 := ha 0 (by omega)
      simp only [Nat.add_zero] at h0
      rw [exec_run hm]
      unfold stepG.exec
      simp only [mkFr_todo, ht, mkFr_fn, choose, Sem.run, hq, Bool.not_true, Bool.false_eq_true, if_false]
      show GStep.go _ _ _ = _
      rw [mkG, ← h0]; cases rest <;> rfl
   | _ => exact hx.elim
 | returning =>
  cases rest with
  | nil => have := hb rfl; rw [hm] at this; cases this
  | cons c r =>
   obtain ⟨fn, _, h1, _, _, _, h5⟩ := hL.fn _ h.fn
   obtain ⟨v, hv⟩ := h5 fr.tmps
   have hc := hr c (by simp)
   refine .inl ⟨c.finish v, r, w, (hc.finish v).1, fun x hx => hr x (by simp [hx]), ?_, .still fun u kd cs => ?_⟩
   ·rw [last_fn (hc.finish v).2]; simp [List.getLast?_cons]
   ·unfold mkG G stepG
    rw [mkCs_cons, show mkFr kd fr (c :: r) = fr from rfl]
    simp only [hm]
    unfold unwind
    simp only [h.defers, hm, h1, Sem.runT_eq, (hv u).1, (hv u).2, doReturn, h.kind, mkFr_finish]
    simp [GStep.after, seen]
 | panicking chain =>
  cases rest with
  | nil => have := hb rfl; rw [hm] at this; cases this
  | cons c r =>
   obtain ⟨fn, _, h1, _, _, _, h5⟩ := hL.fn _ h.fn
   have hc := hr c (by simp)
   refine .inl ⟨c.raise chain, r, w, (hc.raise chain).1, fun x hx => hr x (by simp [hx]), ?_, .still fun u kd cs => ?_⟩
   ·rw [last_fn (hc.raise chain).2]; simp [List.getLast?_cons]
   ·have hcat : fr.catches P = false := by unfold Frame.catches; rw [h1]
    unfold mkG G stepG
    rw [mkCs_cons, show mkFr kd fr (c :: r) = fr from rfl]
    simp only [hm]
    unfold unwind
    simp only [h.defers, hm, hcat, mkFr_raise]
    rfl
end Go.Mu
