/- The run of a region in the order of the plan, and its replays. -/
import Derived.Test.YtddpkbicnolafaaGreatAy13
namespace Go.Ay
open Go

/-- One item of the plan's run. -/
structure Rec where
  x : AI
  vars : List V
  hb : H
  b : Bool
  v : V
  ha : H

/-- It turns the heap. -/
def Rec.aff (r : Rec) : Bool := r.x.it.a.isW || (r.x.al && r.b)

def wrV (vs : List V) (r : Rec) : List V := (putV r.x.it.d vs [] r.v).1
def rpV (S : Nat → Bool) (T : List Rec) (vs : List V) : List V := T.foldl (fun vs r => if S r.x.i then wrV vs r else vs) vs

def hst (base : Nat) (S : Nat → Bool) (h : H) (r : Rec) : H :=
  if S r.x.i then (if r.x.it.a.isW then r.ha else if r.x.al && r.b then h.set (base + r.x.i) (r.ha.get (base + r.x.i)) else h) else h
def rpH (base : Nat) (S : Nat → Bool) (T : List Rec) (h : H) : H := T.foldl (hst base S) h

def logNext (r : Rec) (log : Log) : Log := if r.b then logV r.x r.vars r.v log else log
def logF (T : List Rec) (log : Log) : Log := T.foldl (fun l r => logNext r l) log

def RecOk (cl yl : CallF) (base : Nat) (log : Log) (r : Rec) : Prop :=
  wantedV r.vars [] r.x.it.g = some r.b ∧ okLog r.x.cks log r.ha = true ∧
  (if r.b then (if r.x.al then evAt r.vars r.hb (base + r.x.i) r.x.it.a = some (r.v, r.ha) else evAct cl yl r.vars [] r.hb r.x.it.a = some (r.v, r.ha)) else r.v = .undef ∧ r.ha = r.hb)

def Chain (cl yl : CallF) (base : Nat) : List Rec → List V → Log → H → List V → H → Prop
  | [], vars, _, h, vars', h' => vars = vars' ∧ h = h'
  | r :: T, vars, log, h, vars', h' => r.vars = vars ∧ r.hb = h ∧ RecOk cl yl base log r ∧ Chain cl yl base T (wrV vars r) (logNext r log) r.ha vars' h'

section
variable {cl yl : CallF} {base : Nat}

theorem chain_of : ∀ (xs : List AI) (vars : List V) (log : Log) (h : H) (vars' : List V) (h' : H), evAny cl yl base xs vars log h = some (vars', h') →
    ∃ T : List Rec, T.map (·.x) = xs ∧ Chain cl yl base T vars log h vars' h'
  | [], vars, log, h, vars', h', he => by
    rw [evAny_nil] at he
    have : vars = vars' ∧ h = h' := by simpa using he
    exact ⟨[], rfl, this⟩
  | x :: xs, vars, log, h, vars', h', he => by
    rw [evAny_cons] at he
    split at he
    · rename_i hw
      split at he
      · rename_i v h1 hact
        split at he
        · rename_i hlog
          obtain ⟨T, hT, hC⟩ := chain_of xs _ _ _ _ _ he
          refine ⟨⟨x, vars, h, true, v, h1⟩ :: T, by simp [hT], rfl, rfl, ⟨hw, hlog, ?_⟩, hC⟩
          simp only [if_true]
          by_cases hal : x.al = true
          · simp only [hal, if_true] at hact ⊢; exact hact
          · simp only [hal, if_false] at hact ⊢; exact hact
        · cases he
      · cases he
    · rename_i hw
      split at he
      · rename_i hlog
        obtain ⟨T, hT, hC⟩ := chain_of xs _ _ _ _ _ he
        exact ⟨⟨x, vars, h, false, .undef, h⟩ :: T, by simp [hT], rfl, rfl, ⟨hw, hlog, by simp⟩, hC⟩
      · cases he
    · cases he

/-- What makes an object. -/
theorem evAt_al {vars : List V} {h h' : H} {n : Nat} {act : Act1} {v : V} (ha : act.isAl = true) (he : evAt vars h n act = some (v, h')) :
    ∃ i o, act = .op i ∧ i.isAl = true ∧ o.rw = true ∧ h' = h.set n (some o) ∧ ∀ h2 : H, h2.next = n → evI (xv vars []) h2 i = some (v, h2.new o) := by
  cases act with
  | op i =>
    simp only [Act1.isAl] at ha
    simp only [evAt] at he
    split at he
    · rename_i v1 h1 hi
      obtain ⟨o, e1, e2, e3⟩ := evI_al ha hi
      cases he
      exact ⟨i, o, rfl, ha, e1, by rw [e2]; rfl, e3⟩
    · cases he
  | call g args => simp [Act1.isAl] at ha
  | callv x args => simp [Act1.isAl] at ha
  | calli g t x args => simp [Act1.isAl] at ha
  | callp g args => simp [Act1.isAl] at ha

/-- What turns nothing. -/
theorem act_still {vars : List V} {h h' : H} {act : Act1} {v : V} (hw : act.isW = false) (ha : act.isAl = false) (he : evAct cl yl vars [] h act = some (v, h')) :
    h' = h ∧ ((∃ i, act = .op i ∧ evI (xv vars []) h i = some (v, h') ∧ (i.isRd = false → ∀ h2, evI (xv vars []) h2 i = some (v, h2))) ∨ ∃ g args, act = .callp g args) := by
  cases act with
  | op i =>
    rw [evAct_op] at he
    simp only [Act1.isW, Act1.isAl] at hw ha
    refine ⟨?_, .inl ⟨i, rfl, he, fun hr => (evI_pure hr ha hw he).2⟩⟩
    by_cases hr : i.isRd = true
    · exact evI_rd hr he
    · exact (evI_pure (by simpa using hr) ha hw he).1
  | call g args => simp [Act1.isW] at hw
  | callv x args => simp [Act1.isW] at hw
  | calli g t x args => simp [Act1.isW] at hw
  | callp g args => rw [evAct_callp] at he; exact ⟨(pureC_some he).1, .inr ⟨g, args, rfl⟩⟩

theorem isW_isAl {act : Act1} (h : act.isAl = true) : act.isW = false := by
  cases act with
  | op i => cases i <;> simp_all [Act1.isAl, Act1.isW, I.isAl, I.isW]
  | _ => simp [Act1.isAl] at h

/-- A step of the plan is its replay. -/
theorem hst_all {log : Log} {r : Rec} (hal : r.x.al = r.x.it.a.isAl) (ho : RecOk cl yl base log r) : hst base (fun _ => true) r.hb r = r.ha := by
  obtain ⟨_, _, ho⟩ := ho
  simp only [hst, if_true]
  by_cases hw : r.x.it.a.isW = true
  · simp [hw]
  · simp only [hw]
    cases hb : r.b with
    | false => simp only [hb] at ho; simp [ho.2]
    | true =>
      simp only [hb, if_true] at ho
      cases ha : r.x.al with
      | true =>
        simp only [ha, if_true] at ho
        obtain ⟨i, o, _, _, _, e, _⟩ := evAt_al (hal ▸ ha) ho
        simp [e, H.get_set, H.next_set]
      | false =>
        simp only [ha] at ho
        obtain ⟨e, _⟩ := act_still (by simpa using hw) (hal ▸ ha) ho
        simp [e]

theorem chain_app : ∀ (T1 T2 : List Rec) (vars : List V) (log : Log) (h : H) (vars' : List V) (h' : H), (∀ r ∈ T1, r.x.al = r.x.it.a.isAl) → Chain cl yl base (T1 ++ T2) vars log h vars' h' →
    Chain cl yl base T2 (rpV (fun _ => true) T1 vars) (logF T1 log) (rpH base (fun _ => true) T1 h) vars' h'
  | [], T2, vars, log, h, vars', h', _, hc => hc
  | r :: T1, T2, vars, log, h, vars', h', ha, hc => by
    obtain ⟨e1, e2, e3, e4⟩ := hc
    have := chain_app T1 T2 _ _ _ _ _ (fun q hq => ha q (List.mem_cons_of_mem _ hq)) e4
    have hh := hst_all (ha r (List.mem_cons_self ..)) e3
    rw [e2] at hh
    simpa [rpV, rpH, logF, hh] using this

/-! ### Replays -/

theorem wrV_eq {vs : List V} {r : Rec} (hl : r.x.it.hasL = false) : wrV vs r = match r.x.it.wr with | some k => vs.set k r.v | none => vs := by
  unfold wrV It.wr putV It.hasL at *
  cases hd : r.x.it.d <;> simp_all

theorem rpV_agree {S S' : Nat → Bool} {k : Nat} : ∀ (T : List Rec) (vs vs' : List V), (∀ r ∈ T, r.x.it.hasL = false) → vs.length = vs'.length → vs.getD k .undef = vs'.getD k .undef →
    (∀ r ∈ T, r.x.it.wr = some k → S r.x.i = S' r.x.i) → (rpV S T vs).getD k .undef = (rpV S' T vs').getD k .undef
  | [], _, _, _, _, h, _ => h
  | r :: T, vs, vs', hl, hlen, h, hk => by
    have hr := hl r (List.mem_cons_self ..)
    simp only [rpV, List.foldl_cons]
    have hlen2 : ∀ (c : Bool) (us : List V), (if c then wrV us r else us).length = us.length := by
      intro c us
      split
      · rw [wrV_eq hr]; split <;> simp
      · rfl
    refine rpV_agree T _ _ (fun q hq => hl q (List.mem_cons_of_mem _ hq)) (by rw [hlen2, hlen2, hlen]) ?_ (fun q hq => hk q (List.mem_cons_of_mem _ hq))
    have key : ∀ (c : Bool) (us : List V), r.x.it.wr ≠ some k → (if c then wrV us r else us).getD k V.undef = us.getD k .undef := by
      intro c us hne
      split
      · rw [wrV_eq hr]
        split
        · rename_i j hj
          have : j ≠ k := fun e => hne (by rw [hj, e])
          simp [List.getD, List.getElem?_set_ne this]
        · rfl
      · rfl
    by_cases hw : r.x.it.wr = some k
    · rw [hk r (List.mem_cons_self ..) hw]
      split
      · rw [wrV_eq hr, wrV_eq hr, hw]
        simp only [List.getD, List.getElem?_set_self', hlen]
        by_cases hkl : k < vs'.length
        · simp [hkl, hlen]
        · have hkl2 : ¬ k < vs.length := by omega
          simp [hkl, hkl2]
      · exact h
    · rw [key _ _ hw, key _ _ hw]; exact h

theorem rpV_wr {S : Nat → Bool} {r : Rec} (hr : r.x.it.hasL = false) : ∀ (T : List Rec) (vs : List V), (∀ q ∈ T, q.x.it.hasL = false) → (∀ q ∈ T, S q.x.i = true → ∀ k, q.x.it.wr = some k → r.x.it.wr ≠ some k) →
    rpV S T (wrV vs r) = wrV (rpV S T vs) r
  | [], _, _, _ => rfl
  | q :: T, vs, hl, hk => by
    have hq := hl q (List.mem_cons_self ..)
    have ih := rpV_wr (S := S) hr T
    simp only [rpV, List.foldl_cons] at ih ⊢
    by_cases hs : S q.x.i = true
    · simp only [hs, if_true]
      rw [← ih (wrV vs q) (fun y hy => hl y (List.mem_cons_of_mem _ hy)) (fun y hy => hk y (List.mem_cons_of_mem _ hy))]
      congr 1
      rw [wrV_eq hr, wrV_eq hq, wrV_eq hq, wrV_eq hr]
      cases hw : r.x.it.wr with
      | none => rfl
      | some j =>
        cases hw2 : q.x.it.wr with
        | none => rfl
        | some k =>
          have : j ≠ k := fun e => hk q (List.mem_cons_self ..) hs k hw2 (by rw [hw, e])
          simp only
          exact List.set_comm _ _ this
    · simp only [hs, Bool.false_eq_true, if_false]
      exact ih vs (fun y hy => hl y (List.mem_cons_of_mem _ hy)) (fun y hy => hk y (List.mem_cons_of_mem _ hy))

theorem rpV_same {S S' : Nat → Bool} : ∀ (T : List Rec) (vs : List V), (∀ q ∈ T, S q.x.i = S' q.x.i) → rpV S T vs = rpV S' T vs
  | [], _, _ => rfl
  | q :: T, vs, h => by
    have ih := rpV_same (S := S) (S' := S') T
    simp only [rpV, List.foldl_cons] at ih ⊢
    rw [h q (List.mem_cons_self ..)]
    exact ih _ (fun y hy => h y (List.mem_cons_of_mem _ hy))

theorem hst_aff {S S' : Nat → Bool} {h : H} {r : Rec} (hs : r.aff = true → S r.x.i = S' r.x.i) : hst base S h r = hst base S' h r := by
  by_cases ha : r.aff = true
  · simp only [hst, hs ha]
  · have h1 : r.x.it.a.isW = false := by simp [Rec.aff] at ha; exact ha.1
    have h2 : (r.x.al && r.b) = false := by simp [Rec.aff] at ha; simpa using ha.2
    simp [hst, h1, h2]

theorem rpH_same {S S' : Nat → Bool} : ∀ (T : List Rec) (h : H), (∀ q ∈ T, q.aff = true → S q.x.i = S' q.x.i) → rpH base S T h = rpH base S' T h
  | [], _, _ => rfl
  | q :: T, h, hs => by
    have ih := rpH_same (S := S) (S' := S') T
    simp only [rpH, List.foldl_cons] at ih ⊢
    rw [hst_aff (hs q (List.mem_cons_self ..))]
    exact ih _ (fun y hy => hs y (List.mem_cons_of_mem _ hy))

/-- A number at which a replay makes an object. -/
def Extra (base : Nat) (S : Nat → Bool) (T : List Rec) (id : Nat) : Prop := ∃ q ∈ T, S q.x.i = true ∧ q.x.al = true ∧ q.b = true ∧ base + q.x.i = id

theorem hst_noW {S : Nat → Bool} {h : H} {r : Rec} (hn : S r.x.i = true → r.x.it.a.isW = false) :
    hst base S h r = if S r.x.i = true ∧ r.x.al = true ∧ r.b = true then h.set (base + r.x.i) (r.ha.get (base + r.x.i)) else h := by
  unfold hst
  by_cases hs : S r.x.i = true
  · simp only [hs, if_true, hn hs, Bool.false_eq_true, if_false, true_and, Bool.and_eq_true]
  · simp [hs]

theorem rpH_noW {S : Nat → Bool} : ∀ (T : List Rec) (h : H), (∀ q ∈ T, S q.x.i = true → q.x.it.a.isW = false) →
    (rpH base S T h).next = h.next ∧
    (∀ id, ¬ Extra base S T id → (rpH base S T h).get id = h.get id) ∧
    (∀ id, Extra base S T id → ∃ q ∈ T, S q.x.i = true ∧ q.x.al = true ∧ q.b = true ∧ base + q.x.i = id ∧ ∀ h', (rpH base S T h').get id = q.ha.get id)
  | [], h, _ => ⟨rfl, fun _ _ => rfl, fun id he => by obtain ⟨q, hq, _⟩ := he; cases hq⟩
  | r :: T, h, hn => by
    have e := fun h => hst_noW (base := base) (h := h) (hn r (List.mem_cons_self ..))
    have ih := fun h => rpH_noW T h (fun q hq => hn q (List.mem_cons_of_mem _ hq))
    simp only [rpH, List.foldl_cons] at ih ⊢
    refine ⟨?_, fun id hid => ?_, fun id hid => ?_⟩
    · rw [(ih _).1, e]
      split <;> rfl
    · have h1 : ¬ Extra base S T id := fun ⟨q, hq, hh⟩ => hid ⟨q, List.mem_cons_of_mem _ hq, hh⟩
      rw [(ih _).2.1 id h1, e]
      split
      · rename_i hc
        have : id ≠ base + r.x.i := fun e => hid ⟨r, List.mem_cons_self .., hc.1, hc.2.1, hc.2.2, e.symm⟩
        simp [H.get_set, H.next_set, this]
      · rfl
    · by_cases h1 : Extra base S T id
      · obtain ⟨q, hq, a1, a2, a3, a4, a5⟩ := (ih h).2.2 id h1
        exact ⟨q, List.mem_cons_of_mem _ hq, a1, a2, a3, a4, fun h' => a5 _⟩
      · obtain ⟨q, hq, a1, a2, a3, a4⟩ := hid
        rcases List.mem_cons.1 hq with rfl | hq
        · refine ⟨q, List.mem_cons_self .., a1, a2, a3, a4, fun h' => ?_⟩
          rw [(ih _).2.1 id h1, e, if_pos ⟨a1, a2, a3⟩]
          simp [H.get_set, H.next_set, ← a4]
        · exact absurd ⟨q, hq, a1, a2, a3, a4⟩ h1

/-- A number that no item has, and that was free before, stays free. -/
theorem rpH_none {S : Nat → Bool} {id : Nat} : ∀ (T : List Rec) (h : H), h.get id = none → (∀ q ∈ T, S q.x.i = true → q.x.it.a.isW = true → q.ha.get id = none) → (∀ q ∈ T, base + q.x.i ≠ id) →
    (rpH base S T h).get id = none
  | [], h, hn, _, _ => hn
  | r :: T, h, hn, h1, h2 => by
    have ih := rpH_none (S := S) (id := id) T
    simp only [rpH, List.foldl_cons] at ih ⊢
    refine ih _ ?_ (fun q hq => h1 q (List.mem_cons_of_mem _ hq)) (fun q hq => h2 q (List.mem_cons_of_mem _ hq))
    unfold hst
    split
    · rename_i hs
      split
      · rename_i hw; exact h1 r (List.mem_cons_self ..) hs hw
      · split
        · have : id ≠ base + r.x.i := fun e => h2 r (List.mem_cons_self ..) e.symm
          simp [H.get_set, H.next_set, this, hn]
        · exact hn
    · exact hn

theorem rpH_app {S : Nat → Bool} {T1 T2 : List Rec} {h : H} : rpH base S (T1 ++ T2) h = rpH base S T2 (rpH base S T1 h) := by simp [rpH]
theorem rpV_app {S : Nat → Bool} {T1 T2 : List Rec} {vs : List V} : rpV S (T1 ++ T2) vs = rpV S T2 (rpV S T1 vs) := by simp [rpV]

end
end Go.Ay

