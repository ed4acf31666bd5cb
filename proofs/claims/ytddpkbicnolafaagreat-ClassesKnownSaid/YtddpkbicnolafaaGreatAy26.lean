/- Slices as lists. -/
import Derived.Test.YtddpkbicnolafaaGreatAy25
namespace Go.Ay

def ints (l : List Int) : List V := l.map (V.int .i64)
theorem ints_length (l : List Int) : (ints l).length = l.length := List.length_map ..
theorem ints_set (l : List Int) (i : Nat) (x : Int) : (ints l).set i (.int .i64 x) = ints (l.set i x) := by
  simp only [ints, List.map_set]
theorem ints_get (l : List Int) (i : Nat) : (ints l)[i]? = (l[i]?).map (V.int .i64) := by simp [ints]
theorem ints_getD {l : List Int} {i : Nat} (hi : i < l.length) : (ints l)[i]? = some (.int .i64 (l.getD i 0)) := by
  rw [ints_get, List.getElem?_eq_getElem hi, List.getD_eq_getElem?_getD, List.getElem?_eq_getElem hi]; rfl
theorem ints_replicate (n : Nat) (x : Int) : ints (List.replicate n x) = List.replicate n (.int .i64 x) := by simp [ints]

/-- A slice's form. -/
structure Sl (v : V) (sz n id off : Nat) : Prop where
  len : lenV v = some n
  ixa : ∀ (k : IntKind) (i : Int), 0 ≤ i → i < n → ixaV sz v (.int k i) = some (.ptr id (off + i.toNat * sz))
  one : v.one = true
  cells : v.cells = [v]
theorem Sl.lens {v : V} {sz n id off : Nat} (s : Sl v sz n id off) : lensV v = some (.int .i64 (n : Int)) := by
  unfold lensV; rw [s.len]; rfl

/-- A slice reads as these cells. -/
def SV (h : H) (v : V) (sz : Nat) (ws : List V) : Prop := (v = .nils ∨ ∃ a, v = .emp a) ∧ ws = [] ∨
  ∃ id off len cap ro vs, v = .sl id off len cap ∧ ws.length = len * sz ∧ id < h.next ∧ h.get id = some (.cells ro vs) ∧ off + len * sz ≤ vs.length ∧ (vs.drop off).take (len * sz) = ws

theorem SV.nils (h : H) (sz : Nat) : SV h .nils sz [] := .inl ⟨.inl rfl, rfl⟩
theorem SV.emp (h : H) (a : Addr) (sz : Nat) : SV h (.emp a) sz [] := .inl ⟨.inr ⟨a, rfl⟩, rfl⟩
theorem SV.mono {h h' : H} {v : V} {sz : Nat} {ws : List V} (s : SV h v sz ws) (f : Fr h h') : SV h' v sz ws := by
  rcases s with s | ⟨id, off, len, cap, ro, vs, h1, h2, h3, h4, h5, h6⟩
  · exact .inl s
  · exact .inr ⟨id, off, len, cap, ro, vs, h1, h2, Nat.lt_of_lt_of_le h3 f.next, by rw [f.get id h3]; exact h4, h5, h6⟩
theorem SV.all {h : H} {id : Nat} {ro : Bool} {vs : List V} {sz len : Nat} (hl : vs.length = len * sz) (hid : id < h.next) (hg : h.get id = some (.cells ro vs)) (cap : Cap) : SV h (.sl id 0 len cap) sz vs :=
  .inr ⟨id, 0, len, cap, ro, vs, rfl, hl, hid, hg, by omega, by rw [List.drop_zero, ← hl, List.take_length]⟩
theorem SV.shape {h : H} {v : V} {sz : Nat} {ws : List V} (s : SV h v sz ws) (n : Nat) (hn : ws.length = n * sz) (hz : 0 < sz) : ∃ id off, Sl v sz n id off ∧ (0 < n → id < h.next) ∧ ∀ i, i < ws.length → h.cell id (off + i) = ws[i]? := by
  rcases s with ⟨hv, rfl⟩ | ⟨id, off, len, cap, ro, vs, rfl, h2, h3, h4, h5, h6⟩
  · have : n = 0 := by
      cases n with
      | zero => rfl
      | succ n => simp [Nat.succ_mul] at hn; omega
    subst this
    rcases hv with rfl | ⟨a, rfl⟩ <;> exact ⟨0, 0, ⟨rfl, fun k i h1 h2 => by omega, rfl, rfl⟩, fun h => by omega, fun i hi => by simp at hi⟩
  · have hlen : len = n := by
      rw [h2] at hn
      exact Nat.eq_of_mul_eq_mul_right hz hn
    subst hlen
    refine ⟨id, off, ⟨rfl, fun k i h1 h2 => ixaV_sl h1 h2, rfl, rfl⟩, fun _ => h3, fun i hi => ?_⟩
    rw [H.cell_of h4, ← h6, List.getElem?_take_of_lt (by omega), List.getElem?_drop]
theorem SV.slice {h : H} {v : V} {sz : Nat} {ws : List V} (s : SV h v sz ws) : h.slice sz v = some ws := by
  rcases s with ⟨rfl | ⟨a, rfl⟩, rfl⟩ | ⟨id, off, len, cap, ro, vs, rfl, h2, h3, h4, h5, h6⟩
  · rfl
  · rfl
  · simp only [H.slice, H.row, h4, sub]
    rw [if_pos h5, h6]
theorem SV.len {h : H} {v : V} {sz : Nat} {ws : List V} (s : SV h v sz ws) {n : Nat} (hn : ws.length = n * sz) (hz : 0 < sz) : lenV v = some n := by
  obtain ⟨id, off, s, _⟩ := s.shape n hn hz
  exact s.len

/-- A list of integers. -/
def SI (h : H) (v : V) (l : List Int) : Prop := SV h v 1 (ints l)
theorem SI.nils (h : H) : SI h .nils [] := SV.nils h 1
theorem SI.emp (h : H) (a : Addr) : SI h (.emp a) [] := SV.emp h a 1
theorem SI.mono {h h' : H} {v : V} {l : List Int} (s : SI h v l) (f : Fr h h') : SI h' v l := SV.mono s f
theorem SI.own {h : H} {id : Nat} {ro : Bool} {l : List Int} (hid : id < h.next) (hg : h.get id = some (.cells ro (ints l))) (cap : Cap) : SI h (.sl id 0 l.length cap) l :=
  SV.all (by rw [ints_length, Nat.mul_one]) hid hg cap
/-- What a walk wants to know of it: its form; its cells. -/
theorem SI.open {h : H} {v : V} {l : List Int} (s : SI h v l) : ∃ id off, Sl v 1 l.length id off ∧ (0 < l.length → id < h.next) ∧ ∀ i : Nat, i < l.length → h.cell id (off + i) = some (.int .i64 (l.getD i 0)) := by
  obtain ⟨id, off, h1, h2, h3⟩ := SV.shape s l.length (by rw [ints_length, Nat.mul_one]) (by omega)
  refine ⟨id, off, h1, h2, fun i i1 => ?_⟩
  rw [h3 i (by rw [ints_length]; omega), ints_getD i1]
theorem SI.len {h : H} {v : V} {l : List Int} (s : SI h v l) : lenV v = some l.length := SV.len s (by rw [ints_length, Nat.mul_one]) (by omega)
theorem SI.lens {h : H} {v : V} {l : List Int} (s : SI h v l) : lensV v = some (.int .i64 (l.length : Int)) := by unfold lensV; rw [s.len]; rfl
/-! ### Rows of rows -/
def All2 {α β : Type} (R : α → β → Prop) : List α → List β → Prop
  | [], [] => True
  | a :: as, b :: bs => R a b ∧ All2 R as bs
  | _, _ => False
theorem All2.length {α β : Type} {R : α → β → Prop} : ∀ {as : List α} {bs : List β}, All2 R as bs → as.length = bs.length
  | [], [], _ => rfl
  | _ :: _, _ :: _, h => by rw [List.length_cons, List.length_cons, All2.length h.2]
  | [], _ :: _, h => h.elim
  | _ :: _, [], h => h.elim
theorem All2.mono {α β : Type} {R S : α → β → Prop} (k : ∀ a b, R a b → S a b) : ∀ {as : List α} {bs : List β}, All2 R as bs → All2 S as bs
  | [], [], _ => trivial
  | _ :: _, _ :: _, h => ⟨k _ _ h.1, All2.mono k h.2⟩
  | [], _ :: _, h => h.elim
  | _ :: _, [], h => h.elim
theorem All2.get {α β : Type} {R : α → β → Prop} : ∀ {as : List α} {bs : List β}, All2 R as bs → ∀ i (hi : i < as.length) (hj : i < bs.length), R as[i] bs[i]
  | a :: as, b :: bs, h, 0, _, _ => h.1
  | a :: as, b :: bs, h, i + 1, hi, hj => All2.get h.2 i (by simpa using hi) (by simpa using hj)
  | [], _, _, i, hi, _ => by simp at hi
  | _ :: _, [], h, _, _, _ => h.elim
theorem All2.append {α β : Type} {R : α → β → Prop} : ∀ {as : List α} {bs : List β} {cs : List α} {ds : List β}, All2 R as bs → All2 R cs ds → All2 R (as ++ cs) (bs ++ ds)
  | [], [], _, _, _, h => h
  | _ :: _, _ :: _, _, _, h, k => ⟨h.1, All2.append h.2 k⟩
  | [], _ :: _, _, _, h, _ => h.elim
  | _ :: _, [], _, _, h, _ => h.elim
theorem All2.of_get {α β : Type} {R : α → β → Prop} : ∀ {as : List α} {bs : List β}, as.length = bs.length → (∀ i (hi : i < as.length) (hj : i < bs.length), R as[i] bs[i]) → All2 R as bs
  | [], [], _, _ => trivial
  | a :: as, b :: bs, hl, h => ⟨h 0 (by simp) (by simp), All2.of_get (by simpa using hl) fun i hi hj => h (i + 1) (by simpa using hi) (by simpa using hj)⟩
  | [], _ :: _, hl, _ => by simp at hl
  | _ :: _, [], hl, _ => by simp at hl
theorem All2.set {α β : Type} {R : α → β → Prop} : ∀ {as : List α} {bs : List β}, All2 R as bs → ∀ (i : Nat) {a : α} {b : β}, R a b → All2 R (as.set i a) (bs.set i b)
  | [], [], _, _, _, _, _ => trivial
  | _ :: _, _ :: _, h, 0, _, _, r => ⟨r, h.2⟩
  | _ :: _, _ :: _, h, i + 1, _, _, r => ⟨h.1, All2.set h.2 i r⟩
  | [], _ :: _, h, _, _, _, _ => h.elim
  | _ :: _, [], h, _, _, _, _ => h.elim

/-- A list of lists of integers. -/
def SR (h : H) (v : V) (ll : List (List Int)) : Prop := ∃ ws, SV h v 1 ws ∧ All2 (SI h) ws ll
theorem SR.nils (h : H) : SR h .nils [] := ⟨[], SV.nils h 1, trivial⟩
theorem SR.mono {h h' : H} {v : V} {ll : List (List Int)} (s : SR h v ll) (f : Fr h h') : SR h' v ll := by
  obtain ⟨ws, s, a⟩ := s
  exact ⟨ws, s.mono f, a.mono fun _ _ x => x.mono f⟩
theorem SR.open {h : H} {v : V} {ll : List (List Int)} (s : SR h v ll) : ∃ id off ws, Sl v 1 ll.length id off ∧ (0 < ll.length → id < h.next) ∧ ws.length = ll.length ∧ (∀ i : Nat, i < ll.length → h.cell id (off + i) = some (ws.getD i .undef)) ∧ All2 (SI h) ws ll := by
  obtain ⟨ws, s, a⟩ := s
  have hl := a.length
  obtain ⟨id, off, h1, h2, h3⟩ := s.shape ll.length (by rw [hl, Nat.mul_one]) (by omega)
  refine ⟨id, off, ws, h1, h2, hl, fun i i1 => ?_, a⟩
  rw [h3 i (by omega), List.getD_eq_getElem?_getD, List.getElem?_eq_getElem (by omega)]; rfl
theorem SR.len {h : H} {v : V} {ll : List (List Int)} (s : SR h v ll) : lenV v = some ll.length := by
  obtain ⟨id, off, ws, h1, _⟩ := s.open; exact h1.len
theorem SR.lens {h : H} {v : V} {ll : List (List Int)} (s : SR h v ll) : lensV v = some (.int .i64 (ll.length : Int)) := by unfold lensV; rw [s.len]; rfl
/-! ### A slice that the call has made, and that it appends to -/
def Own (h : H) (v : V) (sz : Nat) (ws : List V) (b : Nat) : Prop := v = .nils ∧ ws = [] ∨
  ∃ id n cap rest, v = .sl id 0 n cap ∧ ws.length = n * sz ∧ (cap = .un sz ∨ cap = .kn n ∧ rest = []) ∧ b ≤ id ∧ id < h.next ∧ h.get id = some (.cells false (ws ++ rest))
theorem Own.nils (h : H) (sz b : Nat) : Own h .nils sz [] b := .inl ⟨rfl, rfl⟩
theorem Own.new (h : H) (sz n b : Nat) (ws : List V) (hn : ws.length = n * sz) (hb : b ≤ h.next) : Own (h.new (.cells false ws)) (.sl h.next 0 n (.kn n)) sz ws b :=
  .inr ⟨h.next, n, _, [], rfl, hn, .inr ⟨rfl, rfl⟩, hb, by rw [H.next_new]; omega, by rw [H.get_new_same, List.append_nil]⟩
theorem Own.sv {h : H} {v : V} {sz : Nat} {ws : List V} {b : Nat} (o : Own h v sz ws b) : SV h v sz ws := by
  rcases o with o | ⟨id, n, cap, rest, rfl, h1, _, _, h2, h3⟩
  · exact .inl ⟨.inl o.1, o.2⟩
  · exact .inr ⟨id, 0, n, cap, false, ws ++ rest, rfl, h1, h2, h3, by rw [List.length_append]; omega, by rw [List.drop_zero, ← h1, List.take_left]⟩
/-- It is another block. -/
def Apart (v : V) (k : Nat) : Prop := ∀ id off n c, v = .sl id off n c → k ≠ id
theorem Apart.nils (k : Nat) : Apart .nils k := fun _ _ _ _ h => by cases h
theorem Apart.sl {id off n k : Nat} {c : Cap} (h : k ≠ id) : Apart (.sl id off n c) k := fun _ _ _ _ e => by cases e; exact h
theorem Own.mono {h h' : H} {v : V} {sz : Nat} {ws : List V} {b : Nat} (o : Own h v sz ws b) (hn : h.next ≤ h'.next) (hg : ∀ id off n c, v = .sl id off n c → b ≤ id → id < h.next → h'.get id = h.get id) : Own h' v sz ws b := by
  rcases o with o | ⟨id, n, cap, rest, rfl, h1, h2, h3, h4, h5⟩
  · exact .inl o
  · exact .inr ⟨id, n, cap, rest, rfl, h1, h2, h3, Nat.lt_of_lt_of_le h4 hn, by rw [hg id 0 n cap rfl h3 h4]; exact h5⟩
theorem Own.fr {h h' : H} {v : V} {sz : Nat} {ws : List V} {b : Nat} (o : Own h v sz ws b) (f : Fr h h') : Own h' v sz ws b :=
  o.mono f.next fun id _ _ _ _ _ hid => f.get id hid
/-- What an append gives. -/
structure Appd (h : H) (x : V) (sz n m : Nat) (ws us : List V) (b : Nat) (v : V) (h' : H) : Prop where
  own : Own h' v sz (ws ++ us) b
  next : h.next ≤ h'.next
  get : ∀ k, k < h.next → Apart x k → h'.get k = h.get k
  fr : ∀ a, Fr a h → a.next ≤ b → Fr a h'
  what : m = 0 ∧ v = x ∨ ∃ id, v = .sl id 0 (n + m) (.un sz) ∧ b ≤ id ∧ id < h'.next ∧ h'.get id = some (.cells false (ws ++ us))
theorem Own.appV {h : H} {x : V} {sz bytes b : Nat} {ws us : List V} (o : Own h x sz ws b) (hb : b ≤ h.next) {n m : Nat} (hn : ws.length = n * sz) (hm : us.length = m * sz) (hz : 0 < sz) (room : (2 * (n + m) + 1000) * bytes ≤ 2 ^ 48 ∧ n + m < 2 ^ 62) :
    ∃ v h', appV h sz bytes x m us = some (v, h') ∧ Appd h x sz n m ws us b v h' := by
  have hx := o.sv
  have hlen := hx.len hn hz
  have hsl := hx.slice
  unfold Ay.appV
  simp only [hlen, hsl]
  by_cases hm0 : m = 0
  · subst hm0
    have hu : us = [] := List.eq_nil_of_length_eq_zero (by omega)
    subst hu
    rw [if_pos rfl]
    exact ⟨x, h, rfl, by rw [List.append_nil]; exact o, Nat.le_refl _, fun _ _ _ => rfl, fun _ f _ => f, .inl ⟨rfl, rfl⟩⟩
  · rw [if_neg hm0, if_pos room]
    have key : ∀ g : H, g.next = h.next → (∀ k, k < h.next → Apart x k → g.get k = h.get k) → (∀ a, Fr a h → a.next ≤ b → Fr a g) → ∃ v h', some (V.sl h.next 0 (n + m) (.un sz), g.new (.cells false (ws ++ us))) = some (v, h') ∧ Appd h x sz n m ws us b v h' := by
      intro g gn gg gf
      refine ⟨_, _, rfl, .inr ⟨h.next, n + m, .un sz, [], rfl, by rw [List.length_append, hn, hm, Nat.add_mul], .inl rfl, hb, by rw [H.next_new]; omega, by rw [← gn, H.get_new_same, List.append_nil]⟩, by rw [H.next_new]; omega, fun k hk ha => ?_, fun a f ha => (gf a f ha).new _, .inr ⟨_, rfl, hb, by rw [H.next_new]; omega, by rw [← gn, H.get_new_same]⟩⟩
      rw [H.get_new_ne g (by omega)]
      exact gg k hk ha
    rcases o with ⟨rfl, rfl⟩ | ⟨id, n', cap, rest, rfl, h1, h2, h3, h4, h5⟩
    · exact key h rfl (fun _ _ _ => rfl) (fun _ f _ => f)
    · have : n' = n := Nat.eq_of_mul_eq_mul_right hz (h1.symm.trans hn)
      subst this
      rcases h2 with rfl | ⟨rfl, rfl⟩
      · simp only [h5, if_true]
        exact key (h.set id none) rfl (fun k hk ha => H.get_set_ne h (ha id 0 n' _ rfl) none) (fun a f ha => f.set (Nat.le_trans ha h3) none)
      · simp only
        rw [if_neg (by omega)]
        exact key h rfl (fun _ _ _ => rfl) (fun _ f _ => f)
theorem Own.app {h : H} {x y : V} {sz bytes b : Nat} {ws us : List V} (o : Own h x sz ws b) (hb : b ≤ h.next) (hy : SV h y sz us) {n m : Nat} (hn : ws.length = n * sz) (hm : us.length = m * sz) (hz : 0 < sz) (room : (2 * (n + m) + 1000) * bytes ≤ 2 ^ 48 ∧ n + m < 2 ^ 62) :
    ∃ v h', appP h sz bytes x y = some (v, h') ∧ Appd h x sz n m ws us b v h' := by
  have e1 : appP h sz bytes x y = Ay.appV h sz bytes x m us := by
    simp only [appP, hy.len hm hz, hy.slice]
  rw [e1]
  exact o.appV hb hn hm hz room
/-- 'append(x, make(..)...)'. -/
def apzP (h : H) (sz bytes : Nat) (zero : List V) (x n : V) : Option (V × H) := match n with
    | .int .i64 n => if 0 ≤ n ∧ n * bytes ≤ 2 ^ 48 ∧ n < 2 ^ 62 ∧ zero.length = sz then appV h sz bytes x n.toNat (zerosV zero (n.toNat * sz)) else none
    | _ => none
theorem evI_apz (ρ : X → V) (h : H) (sz bytes : Nat) (zero : List V) (x n : X) : evI ρ h (.apz sz bytes zero x n) = apzP h sz bytes zero (ρ x) (ρ n) := by
  simp only [evI, apzP]
  cases ρ n <;> rfl
/-! ### Maps -/
/-- No value of the map lies in the block. -/
def Avoid (h : H) (mid x : Nat) : Prop := ∀ es n v, h.get mid = some (.map es) → findV .i64 n es = some v → ∀ off len c, v ≠ .sl x off len c
/-- All but one map is as it was; what is new in the map lies in new blocks. -/
structure FrM (mid : Nat) (h h' : H) : Prop where
  next : h.next ≤ h'.next
  get : ∀ id, id < h.next → id ≠ mid → h'.get id = h.get id
  av : mid < h.next → ∀ x, x < h.next → Avoid h mid x → Avoid h' mid x
theorem FrM.refl (mid : Nat) (h : H) : FrM mid h h := ⟨Nat.le_refl _, fun _ _ _ => rfl, fun _ _ _ h => h⟩
theorem FrM.trans {mid : Nat} {a b c : H} (x : FrM mid a b) (y : FrM mid b c) : FrM mid a c :=
  ⟨Nat.le_trans x.next y.next, fun id hid hne => (y.get id (Nat.lt_of_lt_of_le hid x.next) hne).trans (x.get id hid hne), fun hm k hk h => y.av (Nat.lt_of_lt_of_le hm x.next) k (Nat.lt_of_lt_of_le hk x.next) (x.av hm k hk h)⟩
theorem Avoid.fr {a b : H} {mid x : Nat} (h : Avoid a mid x) (hm : b.get mid = a.get mid) : Avoid b mid x := fun es n v h1 h2 => h es n v (hm ▸ h1) h2
theorem Fr.toM {a b : H} (x : Fr a b) (mid : Nat) : FrM mid a b := ⟨x.next, fun id hid _ => x.get id hid, fun hm _ _ h => h.fr (x.get mid hm)⟩
theorem FrM.bump {mid : Nat} {a b : H} (x : FrM mid a b) {n : Nat} (hn : b.next ≤ n) : FrM mid a (H.mk b.tr n) := ⟨Nat.le_trans x.next hn, fun k hk hne => (H.get_next' b n k).trans (x.get k hk hne), fun hm k hk h => (x.av hm k hk h).fr (H.get_next' b n mid)⟩
theorem FrM.new {mid : Nat} {a b : H} (x : FrM mid a b) (o : Ob) : FrM mid a (b.new o) := x.trans (((Fr.refl b).new o).toM mid)
theorem FrM.set {mid : Nat} {a b : H} (x : FrM mid a b) {id : Nat} (hid : a.next ≤ id) (o : Option Ob) : FrM mid a (b.set id o) :=
  ⟨x.next, fun k hk hne => (H.get_set_ne b (by omega) o).trans (x.get k hk hne), fun hm k hk h => (x.av hm k hk h).fr (H.get_set_ne b (by omega) o)⟩
theorem FrM.cell {mid : Nat} {a b : H} (x : FrM mid a b) {id : Nat} (hid : id < a.next) (hne : id ≠ mid) (off : Nat) : b.cell id off = a.cell id off := by unfold H.cell; rw [x.get id hid hne]

def lkpO (o : Option Ob) (zero : V) (ok : Bool) (kk : IntKind) (n : Int) : Option V := match o with
  | some (.map es) => if keysV kk es then
      match findV kk n es with
      | some v => some (if ok then .tup [v, .bool true] else v)
      | none => some (if ok then .tup [zero, .bool false] else zero)
    else none
  | _ => none
def lkpP (h : H) (zero : V) (ok : Bool) (x k : V) : Option V := match x, k with
  | .mp id, .int kk n => lkpO (h.get id) zero ok kk n
  | _, _ => none
theorem lkpP_mp (h : H) (zero : V) (ok : Bool) (id : Nat) (kk : IntKind) (n : Int) : lkpP h zero ok (.mp id) (.int kk n) = lkpO (h.get id) zero ok kk n := rfl
theorem evI_lkp (ρ : X → V) (h : H) (zero : V) (ok : Bool) (x k : X) : evI ρ h (.lkp zero ok x k) = (lkpP h zero ok (ρ x) (ρ k)).map (·, h) := by
  simp only [evI, lkpP]
  cases ρ x <;> try rfl
  cases ρ k <;> try rfl
  simp only [lkpO]
  rename_i id kk n
  cases h.get id with
  | none => rfl
  | some o => cases o with
    | map es =>
      simp only
      by_cases hk : keysV kk es = true
      · rw [if_pos hk, if_pos hk]
        cases findV kk n es <;> rfl
      · rw [if_neg hk, if_neg hk]; rfl
    | _ => rfl
def msetO (o : Option Ob) (h : H) (id : Nat) (kk : IntKind) (n : Int) (y : V) : Option H := match o with
  | some (.map es) => if keysV kk es then some (h.set id (some (.map (setV kk n y es)))) else none
  | _ => none
def msetP (h : H) (x k y : V) : Option H := match x, k with
  | .mp id, .int kk n => msetO (h.get id) h id kk n y
  | _, _ => none
theorem msetP_mp (h : H) (id : Nat) (kk : IntKind) (n : Int) (y : V) : msetP h (.mp id) (.int kk n) y = msetO (h.get id) h id kk n y := rfl
theorem evI_mset (ρ : X → V) (h : H) (x k y : X) : evI ρ h (.mset x k y) = (msetP h (ρ x) (ρ k) (ρ y)).map fun h' => (V.undef, h') := by
  simp only [evI, msetP]
  cases ρ x <;> try rfl
  cases ρ k <;> try rfl
  simp only [msetO]
  rename_i id kk n
  cases h.get id with
  | none => rfl
  | some o => cases o with
    | map es =>
      simp only
      by_cases hk : keysV kk es = true
      · rw [if_pos hk, if_pos hk]; rfl
      · rw [if_neg hk, if_neg hk]; rfl
    | _ => rfl
/-! ### New slices -/
theorem mksV_int {h : H} {sz bytes : Nat} {zero : List V} {j k : IntKind} {l c : Int} (h0 : 0 ≤ l) (h1 : l ≤ c) (h2 : c * bytes ≤ 281474976710656) (h3 : c < 4611686018427387904) :
    mksV h sz bytes zero (.int j l) (.int k c) = some (.sl h.next 0 l.toNat (.kn c.toNat), h.new (.cells false (zerosV zero (c.toNat * sz)))) := by
  simp only [mksV]; rw [if_pos ⟨h0, h1, h2, h3⟩]
theorem zeros_int (n : Nat) : zerosV [.int .i64 0] n = ints (List.replicate n 0) := by
  rw [ints_replicate]
  unfold zerosV
  apply List.ext_getElem
  · simp
  · intro i h1 h2
    simp [Nat.mod_one]
theorem blsV_nil (h : H) (sz : Nat) (zero : List V) : blsV h sz zero 0 [] = some (.sl h.next 0 0 (.kn 0), h.new (.cells false [])) := by
  simp [blsV, fillV, zerosV]

theorem SV.what {h : H} {v : V} {sz : Nat} {ws : List V} (s : SV h v sz ws) : v.cells = [v] ∧ v.one = true ∧ ∀ k n, v ≠ .int k n := by
  rcases s with ⟨rfl | ⟨a, rfl⟩, _⟩ | ⟨id, off, len, cap, ro, vs, rfl, _⟩
  · exact ⟨rfl, rfl, fun k n h => by cases h⟩
  · exact ⟨rfl, rfl, fun k n h => by cases h⟩
  · exact ⟨rfl, rfl, fun k n h => by cases h⟩
theorem Own.set {h : H} {v : V} {sz : Nat} {ws : List V} {b P : Nat} (x : Own h v sz ws b) (hP : P < b) (o : Option Ob) : Own (h.set P o) v sz ws b :=
  x.mono (Nat.le_refl _) fun id _ _ _ _ hid _ => H.get_set_ne h (by omega) o
/-! ### Structs of two fields -/
theorem bldV_nil (z : List V) : bldV z [] = some (.agg z) := rfl
theorem putO_two {x y v u : V} (h : H) (id : Nat) : putO (some (.cells false [x, y])) h id 0 [v, u] = some (h.set id (some (.cells false [v, u]))) := by
  simp [putO, putAt]
/-! ### Reads that are read again -/
def okE (h : H) (j : I) (v : V) : Bool := match evI (xv [] []) h j with | some (u, _) => eqV u v | none => false
theorem okLog_cons (cks : List Nat) (k : Nat) (j : I) (v : V) (log : Log) (h : H) : okLog cks ((k, j, v) :: log) h = ((!cks.contains k || okE h j v) && okLog cks log h) := rfl
theorem okLog_empty (cks : List Nat) (h : H) : okLog cks [] h = true := rfl
def okV (o : Option V) (v : V) : Bool := match o with | some u => eqV u v | none => false
theorem okV_some (u v : V) : okV (some u) v = eqV u v := rfl
theorem okE_ld1 (h : H) (x v : V) : okE h (.ld false 1 (.c x)) v = okV (cellV h x) v := by
  unfold okE; rw [evI_ld1, xv_c]; cases cellV h x <;> rfl
theorem okE_ldn (h : H) (n : Nat) (x v : V) : okE h (.ld true n (.c x)) v = okV (rowV h n x) v := by
  unfold okE; rw [evI_ldn, xv_c]; cases rowV h n x <;> rfl
theorem eqV_int (k : IntKind) (a : Int) : eqV (.int k a) (.int k a) = true := by simp [eqV]
theorem eqV_bool (a : Bool) : eqV (.bool a) (.bool a) = true := by simp [eqV]
theorem eqV_ptr (a b : Nat) : eqV (.ptr a b) (.ptr a b) = true := by simp [eqV]
theorem eqV_agg (a b : List V) : eqV (.agg a) (.agg b) = eqVs a b := by simp [eqV]
theorem eqVs_nil : eqVs [] [] = true := by simp [eqVs]
theorem eqVs_cons (a b : V) (as bs : List V) : eqVs (a :: as) (b :: bs) = (eqV a b && eqVs as bs) := by simp [eqVs]
theorem SV.eqV {h : H} {v : V} {sz : Nat} {ws : List V} (s : SV h v sz ws) : eqV v v = true := by
  rcases s with ⟨rfl | ⟨a, rfl⟩, _⟩ | ⟨id, off, len, cap, ro, vs, rfl, _⟩ <;> simp [Ay.eqV]
theorem logV_op (i : Nat) (d : D) (g : Option (X × Bool)) (j : I) (al : Bool) (cks : List Nat) (vars : List V) (v : V) (log : Log) : logV ⟨i, ⟨d, g, .op j⟩, al, cks⟩ vars v log = if j.isRd then (i, j.close (xv vars []), v) :: log else log := rfl
theorem logV_call (i : Nat) (d : D) (g : Option (X × Bool)) (f : Nat) (xs : List X) (al : Bool) (cks : List Nat) (vars : List V) (v : V) (log : Log) : logV ⟨i, ⟨d, g, .call f xs⟩, al, cks⟩ vars v log = log := rfl
theorem logV_callv (i : Nat) (d : D) (g : Option (X × Bool)) (f : X) (xs : List X) (al : Bool) (cks : List Nat) (vars : List V) (v : V) (log : Log) : logV ⟨i, ⟨d, g, .callv f xs⟩, al, cks⟩ vars v log = log := rfl
theorem logV_callp (i : Nat) (d : D) (g : Option (X × Bool)) (f : Nat) (xs : List X) (al : Bool) (cks : List Nat) (vars : List V) (v : V) (log : Log) : logV ⟨i, ⟨d, g, .callp f xs⟩, al, cks⟩ vars v log = log := rfl
attribute [go_sem] okLog_cons okLog_empty okV_some okE_ld1 okE_ldn eqV_int eqV_bool eqV_ptr eqV_agg eqVs_nil eqVs_cons logV_op logV_call logV_callv logV_callp I.isRd I.close List.contains_cons List.contains_nil Nat.reduceBEq Bool.or_false Bool.false_or Bool.or_true Bool.true_or Bool.and_true Bool.true_and

/-! ### An object at a number that was kept for it -/
def evAtO (o : Option (V × H)) (m : Nat) : Option (V × H) := match o with | some (v, h') => some (v, H.mk h'.tr m) | none => none
theorem evAt_op (vars : List V) (h : H) (n : Nat) (i : I) : evAt vars h n (.op i) = evAtO (evI (xv vars []) (H.mk h.tr n) i) h.next := rfl
theorem evAtO_some (v : V) (h' : H) (m : Nat) : evAtO (some (v, h')) m = some (v, H.mk h'.tr m) := rfl
attribute [go_sem] evAt_op evAtO_some

/-! ### Slots that nobody asks for -/
/-! ### Arrays of the call's own -/
theorem putO_ints {l : List Int} {off : Nat} (hlt : off < l.length) (h : H) (id : Nat) (x : Int) : putO (some (.cells false (ints l))) h id off [.int .i64 x] = some (h.set id (some (.cells false (ints (l.set off x))))) := by
  rw [putO_one (by rw [ints_length]; exact hlt), ints_set]
attribute [go_sem] Int.toNat_natCast Int.toNat_zero Int.toNat_one Nat.add_zero Nat.zero_add
attribute [go_sem] bldV_nil putO_two List.getElem?_cons_zero List.getElem?_cons_succ List.getElem?_nil
attribute [go_sem] evI_apz evI_lkp evI_mset lkpP_mp msetP_mp
attribute [go_sem] putO_ints ints_length ints_set mksV_int zeros_int blsV_nil Nat.mul_one Nat.mul_zero
theorem Qn : (∀ {a : Type} (l : List a) (i : Nat) (x : a), (l.set i x).length = l.length) ∧ (∀ {a : Type} (n : Nat) (x : a), (List.replicate n x).length = n) ∧ (∀ {a : Type} (l m : List a), (l ++ m).length = l.length + m.length) ∧ (∀ {a : Type} (i : Nat) (l : List a), (l.take i).length = min i l.length) ∧ (∀ {a : Type} (i : Nat) (l : List a), (l.drop i).length = l.length - i) ∧ (∀ {a : Type} (x : a) (l : List a), (x :: l).length = l.length + 1) ∧ (∀ {a : Type}, ([] : List a).length = 0) ∧ (∀ {a b : Type} (f : a → b) (l : List a), (l.map f).length = l.length) ∧ (∀ n : Nat, (List.range n).length = n) ∧ (∀ l : List Int, (ints l).length = l.length) :=
  ⟨fun _ _ _ => List.length_set .., fun _ _ => List.length_replicate .., fun _ _ => List.length_append .., fun _ _ => List.length_take .., fun _ _ => List.length_drop .., fun _ _ => rfl, rfl, fun _ _ => List.length_map .., fun _ => List.length_range .., fun _ => ints_length _⟩
end Go.Ay

