/- What the functions of layer 6 compute, as plain functions of lists. What the functions of layer 6 compute, as plain functions of lists. Contracts: small functions. Contracts: cyclotomic polynomials, by the program's table. Contracts: comparing, searching, residues. Contracts of the reference: gcd, divide. Contracts: reduced, inverse. Contracts: with n/q in place of n. Contracts: the primes that divide a number, one after another. -/
import Derived.Test.YthfabknpogbcaaaAy26
import Derived.Test.YthfabknpogbcaaaC6code
/- What the functions of layer 6 compute, as plain functions of lists. -/
namespace Go.Proofs.Ythfabknpogbcaaa
open Go Go.Ay
noncomputable section
/-! division -/
abbrev W (x : Int) : Int := IntKind.i64.wrap x
def subAt (x : Int) : Nat → List Int → List Int → List Int
  | _, [], r => r
  | i, y :: b, r => subAt x (i + 1) b (r.set i (W (r.getD i 0 - W (x * y))))
def divGo (d : Nat) (b : List Int) : Nat → List Int → List Int → List Int × List Int
  | 0, q, r => (q, r)
  | n + 1, q, r => divGo d b n (q.set n (r.getD (n + d) 0)) (subAt (r.getD (n + d) 0) n b r)
def divS (a b : List Int) : List Int × List Int :=
  let s := divGo (b.length - 1) b (a.length - (b.length - 1)) (List.replicate (a.length - (b.length - 1)) 0) a
  (s.1, s.2.take (min (b.length - 1) a.length))
/-! the same, quicker -/
def Wq (n : Int) : Int := cond (inI64 n) n (IntKind.i64.wrap n)
theorem Wq_eq (n : Int) : Wq n = W n := wrapX_eq .i64 n
def zipS (x : Int) : List Int → List Int → List Int
  | [], r => r
  | _ :: _, [] => []
  | y :: b, z :: r => Wq (z - Wq (x * y)) :: zipS x b r
def divR (b : List Int) : Nat → List Int → List Int × List Int
  | 0, a => ([], a)
  | _ + 1, [] => ([], [])
  | n + 1, x :: a => let p := divR b n (zipS x b a); (x :: p.1, p.2)
def divF (a b : List Int) : List Int × List Int :=
  let p := divR (b.take (b.length - 1)).reverse (a.length - (b.length - 1)) a.reverse
  (p.1.reverse, p.2.reverse)
theorem subAt_len (x : Int) : ∀ (b : List Int) (i : Nat) (r : List Int), (subAt x i b r).length = r.length
  | [], _, _ => rfl
  | y :: b, i, r => by rw [subAt, subAt_len x b]; simp
theorem subAt_at (x : Int) : ∀ (b : List Int) (i : Nat) (r : List Int) (j : Nat), j < r.length → (subAt x i b r).getD j 0 = if i ≤ j ∧ j < i + b.length then W (r.getD j 0 - W (x * b.getD (j - i) 0)) else r.getD j 0
  | [], i, r, j, hj => by rw [if_neg (by simp)]; rfl
  | y :: b, i, r, j, hj => by
    rw [subAt, subAt_at x b (i + 1) _ j (by rw [List.length_set]; exact hj), getD_set]
    by_cases h1 : i = j
    · subst h1
      rw [if_neg (by omega), if_pos rfl, if_pos hj, if_pos (by simp)]
      simp
    · rw [if_neg h1]
      by_cases h2 : i + 1 ≤ j ∧ j < i + 1 + b.length
      · rw [if_pos h2, if_pos (by simp; omega)]
        obtain ⟨k, rfl⟩ : ∃ k, j = i + 1 + k := ⟨j - (i + 1), by omega⟩
        rw [show i + 1 + k - (i + 1) = k by omega, show i + 1 + k - i = k + 1 by omega, List.getD_cons_succ]
      · rw [if_neg h2, if_neg (by simp; omega)]
theorem zipS_len (x : Int) : ∀ (b r : List Int), b.length ≤ r.length → (zipS x b r).length = r.length
  | [], r, _ => rfl
  | _ :: _, [], h => by simp at h
  | y :: b, z :: r, h => by rw [zipS, List.length_cons, zipS_len x b r (by simpa using h)]; rfl
theorem zipS_at (x : Int) : ∀ (b r : List Int) (j : Nat), b.length ≤ r.length → j < r.length → (zipS x b r).getD j 0 = if j < b.length then W (r.getD j 0 - W (x * b.getD j 0)) else r.getD j 0
  | [], r, j, _, _ => by rw [if_neg (by simp)]; rfl
  | _ :: _, [], j, h, _ => by simp at h
  | y :: b, z :: r, 0, h, _ => by rw [zipS, if_pos (by simp), Wq_eq, Wq_eq]; rfl
  | y :: b, z :: r, j + 1, h, hj => by
    rw [zipS, List.getD_cons_succ, zipS_at x b r j (by simpa using h) (by simpa using hj)]
    simp only [List.length_cons, List.getD_cons_succ, Nat.add_lt_add_iff_right]
theorem getD_rev (l : List Int) (j : Nat) (hj : j < l.length) : l.reverse.getD j 0 = l.getD (l.length - 1 - j) 0 := by
  rw [List.getD_eq_getElem?_getD, List.getElem?_reverse hj, ← List.getD_eq_getElem?_getD]
theorem getD_take (l : List Int) (n j : Nat) (hj : j < n) : (l.take n).getD j 0 = l.getD j 0 := by
  rw [List.getD_eq_getElem?_getD, List.getElem?_take_of_lt hj, ← List.getD_eq_getElem?_getD]
theorem eqD {a b : List Int} (hl : a.length = b.length) (h : ∀ j, j < a.length → a.getD j 0 = b.getD j 0) : a = b := by
  apply List.ext_getElem hl
  intro i h1 h2
  have := h i h1
  rw [List.getD_eq_getElem?_getD, List.getElem?_eq_getElem h1, List.getD_eq_getElem?_getD, List.getElem?_eq_getElem h2] at this
  exact this
theorem zip_sub (x : Int) (b r : List Int) (n d : Nat) (hb : b.length = d + 1) (hr : n + d < r.length) : zipS x (b.take d).reverse (r.take (n + d)).reverse = ((subAt x n b r).take (n + d)).reverse := by
  have hbl : (b.take d).reverse.length = d := by rw [List.length_reverse, List.length_take]; omega
  have hrl : (r.take (n + d)).reverse.length = n + d := by rw [List.length_reverse, List.length_take]; omega
  apply eqD
  · rw [zipS_len _ _ _ (by omega), hrl, List.length_reverse, List.length_take, subAt_len]; omega
  · intro j hj
    rw [zipS_len _ _ _ (by omega), hrl] at hj
    rw [zipS_at _ _ _ _ (by omega) (by omega), hbl, getD_rev (r.take (n + d)) j (by rw [List.length_take]; omega), getD_rev ((subAt x n b r).take (n + d)) j (by rw [List.length_take, subAt_len]; omega)]
    have e1 : (r.take (n + d)).length = n + d := by rw [List.length_take]; omega
    have e2 : ((subAt x n b r).take (n + d)).length = n + d := by rw [List.length_take, subAt_len]; omega
    rw [e1, e2, getD_take _ _ _ (by omega), getD_take _ _ _ (by omega), subAt_at x b n r _ (by omega)]
    by_cases h : j < d
    · rw [if_pos h, if_pos (by omega), getD_rev _ _ (by rw [List.length_take]; omega)]
      have e3 : (b.take d).length = d := by rw [List.length_take]; omega
      rw [e3, getD_take _ _ _ (by omega), show n + d - 1 - j - n = d - 1 - j by omega]
    · rw [if_neg h, if_neg (by omega)]
theorem div_key (b : List Int) (d : Nat) (hb : b.length = d + 1) : ∀ (n : Nat) (q r : List Int), n + d ≤ r.length → n ≤ q.length →
    (divGo d b n q r).1 = (divR (b.take d).reverse n (r.take (n + d)).reverse).1.reverse ++ q.drop n ∧ (divGo d b n q r).2.take d = (divR (b.take d).reverse n (r.take (n + d)).reverse).2.reverse
  | 0, q, r, _, _ => by simp [divGo, divR]
  | n + 1, q, r, hr, hq => by
    have hx : (r.take (n + 1 + d)).reverse = r.getD (n + d) 0 :: (r.take (n + d)).reverse := by
      rw [show n + 1 + d = (n + d) + 1 by omega, List.take_succ_eq_append_getElem (by omega), List.reverse_append, List.getD_eq_getElem?_getD, List.getElem?_eq_getElem (by omega)]; rfl
    rw [hx, divGo, divR, zip_sub _ b r n d hb (by omega)]
    obtain ⟨h1, h2⟩ := div_key b d hb n (q.set n (r.getD (n + d) 0)) (subAt (r.getD (n + d) 0) n b r) (by rw [subAt_len]; omega) (by rw [List.length_set]; omega)
    refine ⟨?_, h2⟩
    rw [h1]
    have hd : (q.set n (r.getD (n + d) 0)).drop n = r.getD (n + d) 0 :: q.drop (n + 1) := by
      rw [List.drop_eq_getElem_cons (by rw [List.length_set]; omega), List.getElem_set_self, List.drop_set_of_lt (by omega)]
    rw [hd]
    simp
theorem divS_eq (a b : List Int) (hb : 0 < b.length) : divS a b = divF a b := by
  obtain ⟨d, hd⟩ : ∃ d, b.length = d + 1 := ⟨b.length - 1, by omega⟩
  simp only [divS, divF, hd, Nat.add_sub_cancel]
  by_cases h : d ≤ a.length
  · obtain ⟨n, hn⟩ : ∃ n, a.length = n + d := ⟨a.length - d, by omega⟩
    obtain ⟨h1, h2⟩ := div_key b d hd n (List.replicate n 0) a (by omega) (by rw [List.length_replicate]; omega)
    rw [hn, Nat.add_sub_cancel, Nat.min_eq_left (by omega), h1, h2]
    rw [show a.take (n + d) = a by rw [← hn, List.take_length]]
    simp
  · rw [show a.length - d = 0 by omega, Nat.min_eq_right (by omega)]
    simp [divGo, divR]
theorem divGo_len (d : Nat) (b : List Int) : ∀ (n : Nat) (q r : List Int), (divGo d b n q r).1.length = q.length ∧ (divGo d b n q r).2.length = r.length
  | 0, _, _ => ⟨rfl, rfl⟩
  | n + 1, q, r => by
    have := divGo_len d b n (q.set n (r.getD (n + d) 0)) (subAt (r.getD (n + d) 0) n b r)
    rw [divGo]
    exact ⟨this.1.trans (by simp), this.2.trans (subAt_len ..)⟩
theorem subAt_snoc (x y : Int) : ∀ (b : List Int) (i : Nat) (r : List Int), subAt x i (b ++ [y]) r = (subAt x i b r).set (i + b.length) (W ((subAt x i b r).getD (i + b.length) 0 - W (x * y)))
  | [], i, r => rfl
  | z :: b, i, r => by
    rw [List.cons_append, subAt, subAt_snoc x y b, subAt]
    simp only [List.length_cons, show i + 1 + b.length = i + (b.length + 1) by omega]



/-! cyclotomic polynomials -/
def xn1 (n : Nat) : List Int := ((List.replicate (n + 1) 0).set 0 (-1)).set n 1
def phiAux (f : Nat → List Int) (n : Nat) : Nat → List Int
  | 0 => xn1 n
  | k + 1 => if n % (k + 1) = 0 then (divF (phiAux f n k) (f (k + 1))).1 else phiAux f n k
def phiG : Nat → Nat → List Int
  | 0, _ => []
  | F + 1, n => phiAux (phiG F) n (n - 1)
def phiR (n : Nat) : List Int := phiG n n
def phiCode : List (Nat × Nat) := [(0, 0), (2, 151), (2, 153), (3, 2457), (3, 2441), (5, 629145), (3, 2425), (7, 161061273), (5, 624777), (7, 159946889), (5, 620921), (11, 10555311626649), (5, 624521), (13, 2702159776422297), (7, 158955897), (9, 40677906553), (9, 40945354889), (17, 177088743107611695513), (7, 159938697), (19, 45334718235548594051481), (9, 40928642953), (13, 2665867033155705), (11, 10417333696889), (23, 2971056094284912659757898137), (9, 40945289353), (21, 11525093966582068918388873), (13, 2666837426403705), (19, 45019893803426003847305), (13, 2682299544602505), (29, 49846049841934345233892764760512921), (9, 41212672153), (31, 12760588759535192379876547778691307929), (17, 175858960169364392073), (21, 11449811718665211671451769), (17, 174773857576793241977), (25, 750356793591111387081847900281), (13, 2683394761197705), (37, 214087153905893982158742895417424270457411993), (19, 44742107539659069946233), (25, 750374860794439105441270569081), (17, 175858678698682583177), (41, 14030415718376668014755374394076316988696952412569), (13, 2700913966282905), (43, 3591786423904427011777375844883537149106419817617817), (21, 11520388822143454568613769), (25, 755289139824025491090006636681), (23, 2932218759719096807996356985), (47, 235391315077000528643842103370287490603838329167401294233), (17, 175858960165069424777), (43, 3566843464021109515407160447962135792033638593890441), (21, 11525091660739059702597769), (33, 3222835486852668465682038581980803078265), (25, 755000201847993438608671999881), (53, 3949210937570894501171926038137641211958566077520591672036661657), (19, 45019893803288564893833), (41, 13841639730240372734519391232290477144187998865529), (25, 755307273728613533032305363081), (37, 211211746466376480566867504482136737817532537), (29, 49194467491059386472665408358414713), (59, 66256764929189412359373656277859444343530646132835710929560232548473241), (17, 175931016659578947977), (61, 16961731821872489563999656007132017751943845410005941997967419532409149849), (31, 12593783677711202937002344539754166649), (37, 212594993041778978259392401700842497263564937), (33, 3244025231312946685017504590849523615881), (49, 59449389964396329908799417747768486098220103552877224036473), (21, 11600337159278559593199769), (67, 284570638509628281872968052757351402340196314314278250183370958457847307403106713), (33, 3242701175410530582046829981482084829065), (45, 907147543604130547658274284221398257252489975254456441), (25, 760260162199380209476776265881), (71, 18649621365366999080826834305505781503767105654900539404017399133493481137970001582489), (25, 755308482635986403583475615881), (73, 4774303069533951764691669582209480064964379047654538087428454178174331171320320405117337), (37, 211288629018235237293922726849876240778230137), (41, 13932980882091366246645498450549735455236097083529), (37, 212513664231704532225021049666409911357638537), (61, 16733514082176017857563484169281622473742013230441519301156877912783751289), (25, 760239696070484446719462832281), (79, 80099513847034128089813313981358204297601419588374478873014060293333239716774020625861078260121), (33, 3244025231233718522521686997325394249865), (55, 1003977180573578513186818530584325112625353567911961643780451895433), (41, 13847011591339064511294519826833489315642090289529), (83, 5249401739479228618494005345082291276847606634143709847421849455383887198078502215736431624855329177), (25, 755617962904995084654487308681), (65, 1096647682011376066383824036176430611075042989679104899541257005342224759163001), (43, 3544834967382800514891397075669373264804375114119545), (57, 255339333709101444150516608824168341219168316320432770196444820248697), (41, 13932959975483019797621960751752929401527886907529), (89, 88070346854018746045855522379600138526588095584061995151523411432457838441797816629888712439428826363697561), (25, 755327825447947316076944595081), (73, 4710065486567902438636258451587916643808098366820744937652522227971235237785322557835385), (45, 912739237828295932241443521228822279011316478478223241), (61, 16733918573959672243848256475900696390274029346865051399581267058705799289), (47, 232314304422399214543922598751068046282219527478938532217), (73, 4710065929473067705074075703562930892583142549650354286959801792553607979366424442865785), (33, 3244025231312946684999057846775814064265), (97, 378259259485387000437878784961378692528765496996468288012303616680758929006373221869576956046895190151743628706945433), (43, 3566843461233516365590832516584544780284459278174345), (61, 16843510658432960930064170678977648248973865363229105764565767273415473289), (41, 13932982275886611925546011698281480593855939643529), (101, 24789598829634322460696824051228913993565175611160545723174329822790217171361675468444595391489323181784670450938375936409), (33, 3265204631743710489796157998344532621465), (103, 6346137300386386549938386957114601982352684956457099705132628434634295595868588919921816420221266734536875635440224239720857), (49, 59841607431176531834106860000174406451759126699825921755273), (49, 60258535589025878623825640513895955568394956990804064242073), (53, 3897587265184346860633730926527998843174793971932087205735528825), (107, 415900454118122228936762127621462555515465561306372486275571937092193196170843843455996160915620936714608681644210535774346123673), (37, 212600437559325273949302458499431510045132937), (109, 106470516254239290607811104671094414211959183694431356486546415895601458219736023924735017194398959798939822500917897158232607660441), (41, 14024324647313585780441561464861042647155078629529), (73, 4710179340883312607900938977320219648951426461019905426339024281756500688051209083787385), (49, 59841703209224854978243905283217778635093729231475501992073), (113, 6977651753237826149273508555724843529794957062598253378702305912134137165888620063931434086852130229383320207420155308161932175634700697), (37, 213988450745955810659360957696727655658256537), (89, 86885380771288582593426961402638446196917517852812621054695594419043261897695283723939125132104983320758393), (57, 256913255710621505446663415366213528515365535021128526761562185762697), (73, 4741026770308103785878084403040820523455809050218768967991130979886835663014912370178185), (59, 65390663426847067099774000640240366639693644222602564381461405979212153), (97, 373169833822629297678459079000017948860731632057710991157184794383567080665707847225391954445012941837918946713962617), (33, 3244030423609804010900866481167991933065)]
def decP : Nat → Nat → List Int
  | 0, _ => []
  | l + 1, k => (((k % 16 : Nat) : Int) - 8) :: decP l (k / 16)
def phiTab : List (List Int) := phiCode.map fun c => decP c.1 c.2
def phiF (n : Nat) : List Int := match phiTab[n]? with | some l => l | none => phiR n
theorem phiAux_congr {f g : Nat → List Int} {n : Nat} : ∀ {k : Nat}, (∀ d, 1 ≤ d → d ≤ k → f d = g d) → phiAux f n k = phiAux g n k
  | 0, _ => rfl
  | k + 1, h => by
    rw [phiAux, phiAux, phiAux_congr (fun d h1 h2 => h d h1 (by omega)), h (k + 1) (by omega) (Nat.le_refl _)]
theorem phiG_stable : ∀ (n F G : Nat), 1 ≤ n → n ≤ F → n ≤ G → phiG F n = phiG G n := by
  intro n
  induction n using Nat.strongRecOn with
  | ind n ih =>
    intro F G h1 hF hG
    obtain ⟨F, rfl⟩ : ∃ F', F = F' + 1 := ⟨F - 1, by omega⟩
    obtain ⟨G, rfl⟩ : ∃ G', G = G' + 1 := ⟨G - 1, by omega⟩
    rw [phiG, phiG]
    exact phiAux_congr fun d h1 h2 => ih d (by omega) F G h1 (by omega) (by omega)
theorem phiR_eq (n : Nat) (hn : 1 ≤ n) : phiR n = phiAux phiR n (n - 1) := by
  obtain ⟨m, rfl⟩ : ∃ m, n = m + 1 := ⟨n - 1, by omega⟩
  show phiG (m + 1) (m + 1) = _
  rw [phiG]
  exact phiAux_congr fun d h1 h2 => phiG_stable d m d h1 (by omega) (Nat.le_refl _)
theorem tab_ok : (List.range 121).all (fun n => n == 0 || decide (phiAux (fun d => phiTab.getD d []) n (n - 1) = phiTab.getD n [])) = true := by decide +kernel
theorem tab_phiR : ∀ n, n ≤ 120 → phiTab[n]? = some (phiR n) := by
  intro n
  induction n using Nat.strongRecOn with
  | ind n ih =>
    intro hn
    have hl : phiTab.length = 121 := by decide +kernel
    rw [List.getElem?_eq_getElem (by omega)]
    congr 1
    rcases Nat.eq_zero_or_pos n with h0 | h0
    · subst h0; rfl
    · have h := List.all_eq_true.1 tab_ok n (List.mem_range.2 (by omega))
      have hb : (n == 0) = false := by simp; omega
      rw [hb, Bool.false_or, decide_eq_true_eq] at h
      rw [phiR_eq n h0]
      rw [List.getD_eq_getElem?_getD, List.getElem?_eq_getElem (by omega), Option.getD_some] at h
      rw [← h]
      exact phiAux_congr fun d h1 h2 => by
        rw [List.getD_eq_getElem?_getD, ih d (by omega) (by omega)]; rfl
theorem phiF_R (n : Nat) : phiF n = phiR n := by
  unfold phiF
  by_cases h : n ≤ 120
  · rw [tab_phiR n h]
  · have hl : phiTab.length = 121 := by decide +kernel
    rw [List.getElem?_eq_none (by omega)]
theorem phiF_eq (n : Nat) (hn : 1 ≤ n) : phiF n = phiAux phiF n (n - 1) := by
  rw [phiF_R, phiR_eq n hn]
  exact phiAux_congr fun d _ _ => (phiF_R d).symm

end
end Go.Proofs.Ythfabknpogbcaaa
/- What the functions of layer 6 compute, as plain functions of lists. -/
namespace Go.Proofs.Ythfabknpogbcaaa
open Go Go.Ay
noncomputable section
theorem divR_len (b : List Int) : ∀ (n : Nat) (a : List Int), (n = 0 ∨ b.length + n ≤ a.length) → (divR b n a).1.length = n ∧ (divR b n a).2.length = a.length - n
  | 0, a, _ => ⟨rfl, rfl⟩
  | n + 1, [], h => by simp at h
  | n + 1, x :: a, h => by
    simp only [List.length_cons] at h
    have hz : (zipS x b a).length = a.length := zipS_len x b a (by omega)
    obtain ⟨h1, h2⟩ := divR_len b n (zipS x b a) (by rw [hz]; omega)
    simp only [divR, List.length_cons]
    rw [h1, h2, hz]
    omega
theorem divF_len1 (a b : List Int) : (divF a b).1.length = a.length - (b.length - 1) := by
  simp only [divF, List.length_reverse]
  rw [(divR_len _ _ _ (by simp only [List.length_reverse, List.length_take]; omega)).1]
theorem divF_len2 (a b : List Int) : (divF a b).2.length = min (b.length - 1) a.length := by
  simp only [divF, List.length_reverse]
  rw [(divR_len _ _ _ (by simp only [List.length_reverse, List.length_take]; omega)).2, List.length_reverse]
  omega
/-- The lengths. -/
def lenAux (f : Nat → Nat) (n : Nat) : Nat → Nat
  | 0 => n + 1
  | k + 1 => if n % (k + 1) = 0 then lenAux f n k - (f (k + 1) - 1) else lenAux f n k
theorem phiAux_len (f : Nat → List Int) (n : Nat) : ∀ k, (phiAux f n k).length = lenAux (fun d => (f d).length) n k
  | 0 => by simp [phiAux, lenAux, xn1]
  | k + 1 => by
    rw [phiAux, lenAux]
    split
    · rw [divF_len1, phiAux_len f n k]
    · exact phiAux_len f n k
/-- The lengths up to 120, one after another. -/
def lens : Nat → List Nat
  | 0 => [0]
  | N + 1 => lens N ++ [lenAux (fun d => (lens N).getD d 0) (N + 1) N]
theorem lenAux_congr {f g : Nat → Nat} {n : Nat} : ∀ {k : Nat}, (∀ d, 1 ≤ d → d ≤ k → f d = g d) → lenAux f n k = lenAux g n k
  | 0, _ => rfl
  | k + 1, h => by
    rw [lenAux, lenAux, lenAux_congr (fun d h1 h2 => h d h1 (by omega)), h (k + 1) (by omega) (Nat.le_refl _)]
theorem lens_len : ∀ N, (lens N).length = N + 1
  | 0 => rfl
  | N + 1 => by rw [lens, List.length_append, lens_len N]; rfl
theorem lens_eq : ∀ N d, 1 ≤ d → d ≤ N → (lens N).getD d 0 = (phiF d).length
  | 0, d, h1, h2 => by omega
  | N + 1, d, h1, h2 => by
    rw [lens]
    by_cases hd : d ≤ N
    · rw [← lens_eq N d h1 hd, List.getD_eq_getElem?_getD, List.getElem?_append_left (by rw [lens_len]; omega), ← List.getD_eq_getElem?_getD]
    · have : d = N + 1 := by omega
      subst this
      rw [List.getD_eq_getElem?_getD, List.getElem?_append_right (by rw [lens_len]; omega), lens_len, Nat.sub_self]
      simp only [List.getElem?_cons_zero, Option.getD_some]
      rw [phiF_eq (N + 1) (by omega), phiAux_len]
      exact lenAux_congr fun d h1 h2 => lens_eq N d h1 h2
theorem phi_lens : (List.range 121).all (fun d => d == 0 || (decide (2 ≤ (lens 120).getD d 0) && decide ((lens 120).getD d 0 ≤ d + 1))) = true := by decide +kernel
theorem phi_len {n : Nat} (h1 : 1 ≤ n) (h2 : n ≤ 120) : 2 ≤ (phiF n).length ∧ (phiF n).length ≤ n + 1 := by
  have h := List.all_eq_true.1 phi_lens n (List.mem_range.2 (by omega))
  rw [lens_eq 120 n h1 h2] at h
  have h0 : (n == 0) = false := by simp; omega
  simpa [h0] using h

def redF (n : Nat) (c : List Int) : List Int := (divF c (phiF n)).2 ++ List.replicate ((phiF n).length - 1 - (divF c (phiF n)).2.length) 0
theorem redF_len (n : Nat) (c : List Int) : (redF n c).length = (phiF n).length - 1 := by
  simp only [redF, List.length_append, List.length_replicate, divF_len2]; omega
/-- The first number that a test lets by, below a bound. -/
def firstF (P : Nat → Bool) (n : Nat) : Option Nat := (List.range n).find? P
def invF (a m : Nat) : Nat := (firstF (fun x => a * x % m == 1 % m) (m + 1)).getD 0
theorem first_some {P : Nat → Bool} {n x : Nat} (h : firstF P n = some x) : x < n ∧ P x = true ∧ ∀ y, y < x → P y = false := by
  unfold firstF at h
  have h1 := List.find?_some h
  obtain ⟨h2, as, bs, h3, h4⟩ := List.find?_eq_some_iff_append.1 h
  have hl : as.length = x ∧ x < n := by
    have e : (List.range n)[as.length]? = some x := by rw [h3]; simp
    rw [List.getElem?_eq_some_iff] at e
    obtain ⟨h5, h6⟩ := e
    simp at h5 h6
    omega
  refine ⟨hl.2, h1, fun y hy => ?_⟩
  have hm : y ∈ as := by
    have e : (List.range n)[y]? = some y := by rw [List.getElem?_range (by omega)]
    rw [h3, List.getElem?_append_left (by omega)] at e
    exact List.mem_of_getElem? e
  have := h4 y hm
  simpa using this

/-! with n/q in place of n -/
def gA (q m : Nat) (c : List Int) : Nat → List (List Int)
  | 0 => List.replicate q (List.replicate m 0)
  | k + 1 => (gA q m c k).set (k % q) (((gA q m c k).getD (k % q) []).set (k / q) (c.getD k 0))
def gB (a b q m : Nat) (c : List Int) : Nat → List (List Int)
  | 0 => List.replicate q (List.replicate m 0)
  | k + 1 => (gB a b q m c k).set (b * k % q) (((gB a b q m c k).getD (b * k % q) []).set (a * k % m) (W (((gB a b q m c k).getD (b * k % q) []).getD (a * k % m) 0 + c.getD k 0)))
def subK (u v : List Int) : Nat → List Int
  | 0 => u
  | k + 1 => (subK u v k).set k (W ((subK u v k).getD k 0 - v.getD k 0))
theorem subK_len (u v : List Int) : ∀ k, (subK u v k).length = u.length
  | 0 => rfl
  | k + 1 => by rw [subK, List.length_set, subK_len u v k]
def nz (x : Int) : Bool := decide (x ≠ 0)
def lowA (q m : Nat) (rows : List (List Int)) : Option (List Int) := if (rows.drop 1).any (fun r => r.any nz) then none else some (redF m (rows.getD 0 []))
def lowB (reds : List (List Int)) : Option (List Int) := if (reds.drop 1).all (fun r => decide (r = reds.getD 1 [])) then some (subK (reds.getD 0 []) (reds.getD 1 []) (reds.getD 1 []).length) else none
def lowerF (n q : Nat) (c : List Int) : Option (List Int) :=
  let m := n / q
  if m % q = 0 then lowA q m (gA q m c c.length) else lowB ((gB (invF q m) (invF m q) q m c c.length).map (redF m))
theorem gA_shape (q m : Nat) (c : List Int) : ∀ k, (gA q m c k).length = q ∧ ∀ e, e < q → ((gA q m c k).getD e []).length = m
  | 0 => by
    refine ⟨List.length_replicate, fun e he => ?_⟩
    rw [gA, List.getD_eq_getElem?_getD, List.getElem?_replicate, if_pos he]
    exact List.length_replicate
  | k + 1 => by
    obtain ⟨h1, h2⟩ := gA_shape q m c k
    refine ⟨by rw [gA, List.length_set, h1], fun e he => ?_⟩
    rw [gA, List.getD_eq_getElem?_getD, List.getElem?_set]
    split
    · rename_i h3
      rw [if_pos (by rw [h3, h1]; exact he)]
      simp only [Option.getD_some, List.length_set]
      rw [h3]; exact h2 e he
    · rw [← List.getD_eq_getElem?_getD]; exact h2 e he
theorem gB_shape (a b q m : Nat) (c : List Int) : ∀ k, (gB a b q m c k).length = q ∧ ∀ e, e < q → ((gB a b q m c k).getD e []).length = m
  | 0 => by
    refine ⟨List.length_replicate, fun e he => ?_⟩
    rw [gB, List.getD_eq_getElem?_getD, List.getElem?_replicate, if_pos he]
    exact List.length_replicate
  | k + 1 => by
    obtain ⟨h1, h2⟩ := gB_shape a b q m c k
    refine ⟨by rw [gB, List.length_set, h1], fun e he => ?_⟩
    rw [gB, List.getD_eq_getElem?_getD, List.getElem?_set]
    split
    · rename_i h3
      rw [if_pos (by rw [h3, h1]; exact he)]
      simp only [Option.getD_some, List.length_set]
      rw [h3]; exact h2 e he
    · rw [← List.getD_eq_getElem?_getD]; exact h2 e he

/-! the primes that divide a number; the canonical form -/
def outF : Nat → Nat → Nat → Nat
  | 0, x, _ => x
  | f + 1, x, q => if x % q = 0 then outF f (x / q) q else x
theorem outF_stable {q : Nat} (hq : 2 ≤ q) : ∀ (x f g : Nat), 1 ≤ x → x ≤ f → x ≤ g → outF f x q = outF g x q := by
  intro x
  induction x using Nat.strongRecOn with
  | ind x ih =>
    intro f g h1 hf hg
    obtain ⟨f, rfl⟩ : ∃ f', f = f' + 1 := ⟨f - 1, by omega⟩
    obtain ⟨g, rfl⟩ : ∃ g', g = g' + 1 := ⟨g - 1, by omega⟩
    rw [outF, outF]
    split
    · rename_i hz
      have hlt : x / q < x := Nat.div_lt_self h1 hq
      have hpos : 1 ≤ x / q := by
        rcases Nat.eq_zero_or_pos (x / q) with h0 | h0
        · have := Nat.div_add_mod x q; rw [h0, hz] at this; omega
        · exact h0
      exact ih _ hlt f g hpos (by omega) (by omega)
    · rfl
theorem outF_step {q x : Nat} (hq : 2 ≤ q) (h1 : 1 ≤ x) (hz : x % q = 0) : 1 ≤ x / q ∧ x / q < x ∧ outF (x / q) (x / q) q = outF x x q := by
  have hlt : x / q < x := Nat.div_lt_self h1 hq
  have hpos : 1 ≤ x / q := by
    rcases Nat.eq_zero_or_pos (x / q) with h0 | h0
    · have := Nat.div_add_mod x q; rw [h0, hz] at this; omega
    · exact h0
  refine ⟨hpos, hlt, ?_⟩
  obtain ⟨y, rfl⟩ : ∃ y, x = y + 1 := ⟨x - 1, by omega⟩
  rw [outF, if_pos hz]
  exact outF_stable hq _ _ _ hpos (Nat.le_refl _) (by omega)
theorem outF_stop {q x : Nat} (h1 : 1 ≤ x) (hz : x % q ≠ 0) : outF x x q = x := by
  obtain ⟨y, rfl⟩ : ∃ y, x = y + 1 := ⟨x - 1, by omega⟩
  rw [outF, if_neg hz]
theorem outF_pos {q : Nat} : ∀ (f x : Nat), 1 ≤ x → 1 ≤ outF f x q
  | 0, x, h => h
  | f + 1, x, h => by
    rw [outF]
    split
    · rename_i hz
      by_cases h0 : x / q = 0
      · rw [h0]
        have : x = 0 ∨ q = 0 ∨ x < q := by
          rcases Nat.div_eq_zero_iff.1 h0 with h | h
          · exact .inr (.inl h)
          · exact .inr (.inr h)
        rcases this with h | h | h
        · omega
        · subst h; simp at hz; omega
        · rw [Nat.mod_eq_of_lt h] at hz; omega
      · exact outF_pos f _ (Nat.pos_of_ne_zero h0)
    · exact h
theorem outF_le {q : Nat} : ∀ (f x : Nat), outF f x q ≤ x
  | 0, x => Nat.le_refl _
  | f + 1, x => by
    rw [outF]
    split
    · exact Nat.le_trans (outF_le f _) (Nat.div_le_self x q)
    · exact Nat.le_refl _
def pgF : Nat → Nat → Nat → Option (List Nat)
  | 0, _, _ => none
  | f + 1, x, q => if 1 < x then (if 0 < x % q then pgF f x (q + 1) else (pgF f (outF x x q) (q + 1)).map (q :: ·)) else some []
def prOf (n : Nat) : List Nat := (pgF 125 n 2).getD []
theorem pg_some : (List.range 121).all (fun n => (pgF 125 n 2).isSome) = true := by decide +kernel
theorem prOf_some {n : Nat} (hn : n ≤ 120) : pgF 125 n 2 = some (prOf n) := by
  have h := List.all_eq_true.1 pg_some n (List.mem_range.2 (by omega))
  unfold prOf
  cases h2 : pgF 125 n 2 with
  | none => rw [h2] at h; cases h
  | some l => rfl
/-- The first prime that can be taken out. -/
def stepF (n : Nat) (c : List Int) : Option (Nat × List Int) := (prOf n).findSome? (fun q => (lowerF n q c).map (fun d => (q, d)))
def leastG : Nat → Nat → List Int → Nat × List Int
  | 0, n, c => (n, c)
  | f + 1, n, c => match stepF n c with | some (q, d) => leastG f (n / q) d | none => (n, c)
def leastF (n : Nat) (c : List Int) : Nat × List Int := leastG n n c

def lowOkB (n q : Nat) : Bool := decide (2 ≤ q) && decide (q ≤ n) && (n / q * q == n) && (n / q % q == 0 || ((firstF (fun x => q * x % (n / q) == 1 % (n / q)) (n / q + 1)).isSome && (firstF (fun x => (n / q) * x % q == 1 % q) (q + 1)).isSome))
theorem lowOk_all : (List.range 121).all (fun n => (prOf n).all (lowOkB n)) = true := by decide +kernel
/-- What 'lower' is asked. -/
structure LowOk (n q : Nat) : Prop where
  n1 : 1 ≤ n
  n2 : n ≤ 120
  q2 : 2 ≤ q
  dvd : n / q * q = n
  ia : n / q % q ≠ 0 → ∃ x, firstF (fun x => q * x % (n / q) == 1 % (n / q)) (n / q + 1) = some x
  ib : n / q % q ≠ 0 → ∃ x, firstF (fun x => (n / q) * x % q == 1 % q) (q + 1) = some x
theorem lowOk {n q : Nat} (h1 : 1 ≤ n) (h2 : n ≤ 120) (hq : q ∈ prOf n) : LowOk n q := by
  have h := List.all_eq_true.1 (List.all_eq_true.1 lowOk_all n (List.mem_range.2 (by omega))) q hq
  simp only [lowOkB, Bool.and_eq_true, Bool.or_eq_true, decide_eq_true_eq, beq_iff_eq] at h
  obtain ⟨⟨⟨a1, a2⟩, a3⟩, a4⟩ := h
  refine ⟨h1, h2, a1, a3, fun hz => ?_, fun hz => ?_⟩
  · rcases a4 with a4 | ⟨a4, _⟩
    · exact absurd a4 hz
    · exact Option.isSome_iff_exists.1 a4
  · rcases a4 with a4 | ⟨_, a4⟩
    · exact absurd a4 hz
    · exact Option.isSome_iff_exists.1 a4
theorem LowOk.lt {n q : Nat} (k : LowOk n q) : 1 ≤ n / q ∧ n / q < n := by
  have h1 : n / q < n := Nat.div_lt_self k.n1 k.q2
  refine ⟨?_, h1⟩
  rcases Nat.eq_zero_or_pos (n / q) with h | h
  · have := k.dvd; rw [h] at this; have := k.n1; omega
  · exact h
theorem lowerF_len {n q : Nat} {c d : List Int} (k : LowOk n q) (h : lowerF n q c = some d) : d.length = (phiF (n / q)).length - 1 := by
  simp only [lowerF] at h
  split at h
  · simp only [lowA] at h
    split at h
    · cases h
    · cases h; exact redF_len _ _
  · simp only [lowB] at h
    split at h
    · cases h
      rw [subK_len, List.getD_eq_getElem?_getD, List.getElem?_map]
      have hs := (gB_shape (invF q (n / q)) (invF (n / q) q) q (n / q) c c.length).1
      rw [List.getElem?_eq_getElem (by have := k.q2; omega)]
      exact redF_len _ _
    · cases h
end
end Go.Proofs.Ythfabknpogbcaaa
/- Contracts: small functions. -/
namespace Go.Proofs.Ythfabknpogbcaaa
open Go Go.Ay
set_option maxRecDepth 100000

theorem gcd_step (a b : Int) (ha : 0 ≤ a) : Int.gcd b (a.tmod b) = Int.gcd a b := by
  rw [Int.tmod_eq_emod_of_nonneg ha, Int.emod_def, Int.gcd_sub_mul_left_right, Int.gcd_comm]

theorem gcd_ok (a b : Int) (h : H) (ha : 0 ≤ a) (hb : 0 ≤ b) : Ev T n_cyclo_gcd [.int .i64 a, .int .i64 b] h (fun v h' => v = .int .i64 (Int.gcd a b) ∧ Fr h h') := by
  refine Ev_of t_cyclo_gcd rfl ?_
  simp only [c_cyclo_gcd, initV_eq, go_sem]
  refine Wp_loop (fun k vars h1 => ∃ x y u : V, ∃ a' b' : Int, vars = [.int .i64 a', .int .i64 b', x, y] ∧ 0 ≤ a' ∧ 0 ≤ b' ∧ Int.gcd a' b' = Int.gcd a b ∧ Fr h h1 ∧ k = b'.toNat) _ ⟨_, _, .undef, _, _, rfl, ha, hb, rfl, Fr.refl h, rfl⟩ ?_
  rintro k vars h1 ⟨x, y, u, a', b', rfl, ha', hb', hg, hfr, rfl⟩
  simp only [go_sem]
  refine iteW_dec (fun hlt => ?_) (fun hge => ?_)
  · simp (disch := omega) only [go_sem]
    have h3 := Int.tmod_eq_emod_of_nonneg ha' (b := b')
    have h4 := Int.emod_nonneg a' (show b' ≠ 0 by omega)
    have h5 := Int.emod_lt_of_pos a' hlt
    exact ⟨_, (by rw [h3]; omega), _, _, .undef, _, _, rfl, hb', by rw [h3]; exact h4, by rw [gcd_step _ _ ha', hg], hfr.bump (by omega), rfl⟩
  · simp (disch := omega) only [go_sem]
    have : b' = 0 := by omega
    subst this
    refine ⟨?_, hfr⟩
    rw [← hg, Int.gcd_zero_right]
    congr 1; omega

/-- A copy: a block of its own. -/
def Copy (h : H) (l : List Int) (v : V) (h' : H) : Prop := Own h' v 1 (ints l) h.next ∧ Fr h h' ∧ (0 < l.length → ∃ id, v = .sl id 0 l.length (.un 1) ∧ h.next ≤ id ∧ id < h'.next ∧ h'.get id = some (.cells false (ints l)))
theorem copy_of {h : H} {l : List Int} {v : V} (hs : SI h v l) (hl : l.length < 1000000) : ∃ v' h', appP (h.new (.cells false [])) 1 8 (.sl h.next 0 0 (.kn 0)) v = some (v', h') ∧ Copy h l v' h' := by
  obtain ⟨v', h', e, a⟩ := (Own.new h 1 0 h.next [] rfl (Nat.le_refl _)).app (bytes := 8) (n := 0) (by rw [H.next_new]; omega) (SV.mono hs ((Fr.refl h).new _)) (m := l.length) rfl (by rw [ints_length, Nat.mul_one]) (by omega) (by omega)
  refine ⟨v', h', e, a.own, a.fr h ((Fr.refl h).new _) (Nat.le_refl _), fun h0 => ?_⟩
  rcases a.what with ⟨h1, _⟩ | ⟨id, h1, h2, h3, h4⟩
  · omega
  · exact ⟨id, by rw [h1, Nat.zero_add], h2, h3, h4⟩
theorem clone_ok (v : V) (l : List Int) (h : H) (hs : SI h v l) (hl : l.length < 1000000) : Ev T n_slices_Clone_int_int [v] h (Copy h l) := by
  refine Ev_of t_slices_Clone_int_int rfl ?_
  rcases id hs with ⟨rfl, h0⟩ | ⟨id, off, len, cap, ro, vs, rfl, hlen, hid, hg, hle, he⟩
  · have : l = [] := by cases l <;> simp_all [ints]
    subst this
    simp only [c_slices_Clone_int_int, initV_eq, go_sem]
    exact ⟨Own.nils _ _ _, Fr.refl h, fun h => by simp at h⟩
  · simp only [c_slices_Clone_int_int, initV_eq, go_sem]
    obtain ⟨v', h', e, c⟩ := copy_of hs hl
    simp only [e, go_sem]
    exact c
theorem own_ok (v : V) (l : List Int) (h : H) (hs : SI h v l) (hl : l.length < 1000000) : Ev T n_kit_Own_int [v] h (Copy h l) := by
  refine Ev_of t_kit_Own_int rfl ?_
  simp only [c_kit_Own_int, initV_eq, go_sem]
  obtain ⟨v', h', e, c⟩ := copy_of hs hl
  simp only [e, go_sem]
  exact c

theorem take_succ_getD (l : List Int) (k : Nat) (hk : k < l.length) : l.take (k + 1) = l.take k ++ [l.getD k 0] := by
  rw [List.take_succ_eq_append_getElem hk, List.getD_eq_getElem?_getD, List.getElem?_eq_getElem hk]; rfl

set_option maxHeartbeats 1000000 in
theorem divide_okS (va vb : V) (a b : List Int) (h : H) (ha : SI h va a) (hb : SI h vb b) (ha1 : a.length < 1000000) (hb0 : 0 < b.length) (hb1 : b.length < 1000000) :
    Ev T n_cyclo_divide_int [va, vb] h (fun v h' => ∃ q r, v = .tup [q, r] ∧ Fr h h' ∧ SI h' q (divS a b).1 ∧ Own h' r 1 (ints (divS a b).2) h.next ∧ (∀ id off n c, q = .sl id off n c → h.next ≤ id)) := by
  refine Ev_of t_cyclo_divide_int rfl ?_
  have hlb := hb.lens
  have hla := ha.lens
  simp (disch := omega) only [c_cyclo_divide_int, initV_eq, go_sem, hlb]
  refine (clone_ok va a h ha ha1).mono ?_
  rintro r0 h1 ⟨ho1, hf1, hcap⟩
  simp (disch := omega) only [go_sem, hla]
  obtain ⟨bid, boff, hbs, hbid, hbc⟩ := hb.open
  obtain ⟨d, hd1⟩ : ∃ d : Nat, b.length = d + 1 := ⟨b.length - 1, by omega⟩
  have eb : (b.length : Int) - 1 = (d : Int) := by omega
  rw [eb]
  by_cases hd : (d : Int) < a.length
  · rw [decide_eq_true hd]
    obtain ⟨rid, rfl, hrid, hrid2, hrg⟩ := hcap (by omega)
    simp (disch := omega) only [go_sem, hla]
    obtain ⟨n, hn⟩ : ∃ n : Nat, a.length = n + d := ⟨a.length - d, by omega⟩
    have en : ((a.length : Int) - (d : Int)).toNat = n := by omega
    have en2 : (a.length : Int) - 1 - (d : Int) = (n : Int) - 1 := by omega
    rw [en, en2]
    refine Wp_loop (fun k vars h2 => ∃ (q r : List Int) (x6 x7 x8 x9 x10 x11 x12 x13 x14 : V), vars = [va, vb, .sl h1.next 0 n (.kn n), .sl rid 0 a.length (.un 1), .int .i64 d, .int .i64 ((k : Int) - 1), x6, x7, x8, x9, x10, x11, x12, x13, x14] ∧ k ≤ n ∧ q.length = n ∧ r.length = a.length ∧
      h2.get h1.next = some (.cells false (ints q)) ∧ h2.get rid = some (.cells false (ints r)) ∧ Fr h h2 ∧ h1.next < h2.next ∧ divGo d b k q r = divGo d b n (List.replicate n 0) a) n
      ⟨_, a, _, _, _, _, _, _, _, _, _, rfl, Nat.le_refl _, List.length_replicate, rfl, H.get_new_same .., by rw [H.get_new_ne _ (by omega)]; exact hrg, hf1.new _, by rw [H.next_new]; omega, rfl⟩ ?_
    rintro k vars h2 ⟨q, r, x6, x7, x8, x9, x10, x11, x12, x13, x14, rfl, hN, hq, hr, hqg, hrg2, hf2, hnx, hdiv⟩
    simp (disch := omega) only [go_sem]
    refine iteW_dec (fun hge => ?_) (fun hlt => ?_)
    · obtain ⟨M, rfl⟩ : ∃ M, k = M + 1 := ⟨k - 1, by omega⟩
      have eM : ((M + 1 : Nat) : Int) - 1 = (M : Int) := by omega
      rw [eM]
      have ei : ((M : Int) + (d : Int)).toNat = M + d := by omega
      simp (disch := omega) only [go_sem, own_cell hrg2, hqg, ei, Int.toNat_natCast, hlb]
      refine Wp_loop (fun k3 vars h3 => ∃ (r3 : List Int) (k : Nat) (x7 x8 x9 x10 x14 : V), vars = [va, vb, .sl h1.next 0 n (.kn n), .sl rid 0 a.length (.un 1), .int .i64 d, .int .i64 (M : Int), .int .i64 (r.getD (M + d) 0), x7, x8, x9, x10, vb, .int .i64 (b.length : Int), .int .i64 (k : Int), x14] ∧ k ≤ b.length ∧
        h3.get h1.next = some (.cells false (ints (q.set M (r.getD (M + d) 0)))) ∧ h3.get rid = some (.cells false (ints r3)) ∧ r3 = subAt (r.getD (M + d) 0) M (b.take k) r ∧ Fr h h3 ∧ h1.next < h3.next ∧ k3 = b.length - k) b.length
        ⟨r, 0, _, _, _, _, _, rfl, Nat.zero_le _, H.get_set_same .., by rw [H.get_set_ne _ (by omega)]; exact hrg2, rfl, hf2.set (by have := hf1.next; omega) _, hnx, rfl⟩ ?_
      rintro k3 vars h3 ⟨r3, k, y7, y8, y9, y10, y14, rfl, hk, hqg3, hrg3, hr3, hf3, hnx3, rfl⟩
      have hlr3 : r3.length = a.length := by rw [hr3, subAt_len, hr]
      simp (disch := omega) only [go_sem]
      by_cases hkl : (k : Int) < (b.length : Int)
      · rw [decide_eq_true hkl]
        have hcb := cells_fr hf3 hbid hbc
        have ek : ((M : Int) + (k : Int)).toNat = M + k := by omega
        simp (disch := omega) only [go_sem, hbs.ixa, hcb, own_cell hrg3, hrg3, ek, Int.toNat_natCast]
        refine ⟨_, ?_, _, k + 1, _, _, _, _, _, rfl, by omega, hqg3, rfl, ?_, hf3.set (by omega) _, hnx3, rfl⟩
        · omega
        · rw [take_succ_getD _ _ (by omega), subAt_snoc, List.length_take, Nat.min_eq_left (by omega), ← hr3]
      · rw [decide_eq_false hkl]
        have hk2 : k = b.length := by omega
        subst hk2
        rw [List.take_length] at hr3
        simp (disch := omega) only [go_sem]
        refine ⟨M, by omega, _, _, _, _, _, _, _, _, _, _, _, rfl, by omega, by rw [List.length_set, hq], hlr3, hqg3, hrg3, hf3, hnx3, ?_⟩
        rw [← hdiv, divGo, hr3]
    · have hk0 : k = 0 := by omega
      subst hk0
      simp (disch := omega) only [go_sem, hqg, hrg2]
      rw [show (if (a.length : Int) < (d : Int) then (a.length : Int) else d) = (d : Int) from if_neg (by omega), slc_un (by omega) (by omega)]
      simp (disch := omega) only [go_sem]
      have hDF : divS a b = (q, r.take d) := by
        have : b.length - 1 = d := by omega
        simp only [divS, this, show a.length - d = n by omega, ← hdiv, divGo, Nat.min_eq_left (show d ≤ a.length by omega)]
      rw [hDF]
      refine ⟨_, _, rfl, hf2.bump (by omega), ?_, ?_, fun _ _ _ _ e => by cases e; exact hf1.next⟩
      · have := SI.own (h := (H.mk h2.tr (h2.next + 9))) (id := h1.next) (l := q) (ro := false) (by show h1.next < h2.next + 9; omega) hqg (.kn n)
        rw [hq] at this; exact this
      · refine .inr ⟨rid, d, _, ints (r.drop d), rfl, by rw [ints_length, List.length_take]; omega, .inl rfl, hrid, by show rid < h2.next + 9; omega, ?_⟩
        rw [← ints_append, List.take_append_drop]
        exact hrg2
  · rw [decide_eq_false hd]
    simp (disch := omega) only [go_sem, hla]
    refine Wp_loop_unroll ?_
    simp (disch := omega) only [go_sem, hla]
    rw [iteW_neg (by omega)]
    have hlr : lensV r0 = some (.int .i64 (a.length : Int)) := SI.lens (h := h1) ho1.sv
    simp (disch := omega) only [go_sem, hlr]
    obtain ⟨r1, e1, o1⟩ := own_slc_all ho1
    have hmin : (if (a.length : Int) < (d : Int) then (a.length : Int) else d) = (a.length : Int) := by split <;> omega
    rw [hmin, e1]
    simp (disch := omega) only [go_sem]
    have hDF : divS a b = ([], a) := by
      have : b.length - 1 = d := by omega
      simp only [divS, this, show a.length - d = 0 by omega, divGo, List.replicate_zero, Nat.min_eq_right (show a.length ≤ d by omega), List.take_length]
    rw [hDF]
    exact ⟨_, _, rfl, hf1.bump (by omega), SI.nils _, o1.fr ((Fr.refl h1).bump (by omega)), fun _ _ _ _ e => by cases e⟩
theorem divide_ok (va vb : V) (a b : List Int) (h : H) (ha : SI h va a) (hb : SI h vb b) (ha1 : a.length < 1000000) (hb0 : 0 < b.length) (hb1 : b.length < 1000000) :
    Ev T n_cyclo_divide_int [va, vb] h (fun v h' => ∃ q r, v = .tup [q, r] ∧ Fr h h' ∧ SI h' q (divF a b).1 ∧ Own h' r 1 (ints (divF a b).2) h.next ∧ (∀ id off n c, q = .sl id off n c → h.next ≤ id)) := by
  rw [← divS_eq a b hb0]
  exact divide_okS va vb a b h ha hb ha1 hb0 hb1
end Go.Proofs.Ythfabknpogbcaaa
/- Contracts: cyclotomic polynomials, by the program's table. -/
namespace Go.Proofs.Ythfabknpogbcaaa
open Go Go.Ay
set_option maxRecDepth 100000

structure Tb (h : H) (tid mid b : Nat) : Prop where
  tp : h.cell tid 0 = some (.mp mid)
  ne : tid ≠ mid
  tlt : tid < h.next
  mlt : mid < h.next
  tb : b ≤ tid
  mb : b ≤ mid
  es : ∃ es, h.get mid = some (.map es) ∧ keysV .i64 es = true ∧ ∀ n v, findV .i64 n es = some v → SI h v (phiF n.toNat) ∧ phiF n.toNat ≠ []
theorem Tb.isMap {h : H} {tid mid b : Nat} (t : Tb h tid mid b) : IsMap h mid := by obtain ⟨es, h1, _⟩ := t.es; exact ⟨es, h1⟩
theorem Tb.fr {h h' : H} {tid mid b : Nat} (t : Tb h tid mid b) (f : Fr h h') : Tb h' tid mid b := by
  obtain ⟨es, h1, h2, h3⟩ := t.es
  exact ⟨by rw [f.cell t.tlt]; exact t.tp, t.ne, Nat.lt_of_lt_of_le t.tlt f.next, Nat.lt_of_lt_of_le t.mlt f.next, t.tb, t.mb, es, by rw [f.get _ t.mlt]; exact h1, h2, fun n v hv => ⟨(h3 n v hv).1.mono f, (h3 n v hv).2⟩⟩
theorem Tb.avoid {h : H} {tid mid b x : Nat} (t : Tb h tid mid b) (hx : h.next ≤ x) : Avoid h mid x := by
  obtain ⟨es, h1, h2, h3⟩ := t.es
  intro es' n v h4 h5 off len c e
  rw [h1] at h4; cases h4
  subst e
  rcases (h3 n _ h5).1 with ⟨h6, _⟩ | ⟨id, _, _, _, _, _, h6, _, h7, _⟩
  · cases h6
  · cases h6; omega
theorem SV.ne_of {h : H} {x off len sz : Nat} {c : Cap} {ws : List V} (s : SV h (.sl x off len c) sz ws) : x < h.next := by
  rcases s with ⟨h6, _⟩ | ⟨id, _, _, _, _, _, h6, _, h7, _⟩
  · cases h6
  · cases h6; exact h7
theorem SV.set_ne {h : H} {v : V} {sz x : Nat} {ws : List V} (s : SV h v sz ws) (hx : ∀ off len c, v ≠ .sl x off len c) (o : Option Ob) : SV (h.set x o) v sz ws := by
  rcases s with s | ⟨id, off, len, cap, ro', vs, h1, h2, h3, h4, h5, h6⟩
  · exact .inl s
  · exact .inr ⟨id, off, len, cap, ro', vs, h1, h2, h3, by rw [H.get_set_ne h (fun e => hx off len cap (by rw [h1, e]))]; exact h4, h5, h6⟩
theorem SV.set_obj {h : H} {v : V} {sz x : Nat} {ws : List V} (s : SV h v sz ws) (hx : ∀ ro vs, h.get x ≠ some (.cells ro vs)) (o : Option Ob) : SV (h.set x o) v sz ws :=
  SV.set_ne s (fun off len c e => by
    subst e
    rcases s with ⟨h6, _⟩ | ⟨id, _, _, _, ro, vs, h6, _, h7, h8, _⟩
    · cases h6
    · cases h6; exact hx _ _ h8) o
theorem Tb.avoid_obj {h : H} {tid mid b x : Nat} (t : Tb h tid mid b) (hx : ∀ ro vs, h.get x ≠ some (.cells ro vs)) : Avoid h mid x := by
  obtain ⟨es, h1, h2, h3⟩ := t.es
  intro es' n v h4 h5 off len c e
  rw [h1] at h4; cases h4
  subst e
  rcases (h3 n _ h5).1 with ⟨h6, _⟩ | ⟨id, _, _, _, ro, vs, h6, _, h7, h8, _⟩
  · cases h6
  · cases h6; exact hx _ _ h8
theorem Tb.set {h : H} {tid mid b x : Nat} (t : Tb h tid mid b) (h1 : x ≠ tid) (h2 : x ≠ mid) (ha : Avoid h mid x) (o : Option Ob) : Tb (h.set x o) tid mid b := by
  obtain ⟨es, k1, k2, k3⟩ := t.es
  exact ⟨by rw [H.cell_set_ne _ (Ne.symm h1)]; exact t.tp, t.ne, t.tlt, t.mlt, t.tb, t.mb, es, by rw [H.get_set_ne _ (Ne.symm h2)]; exact k1, k2, fun n v hv => ⟨SV.set_ne (k3 n v hv).1 (ha es n v k1 hv) o, (k3 n v hv).2⟩⟩
theorem tmod_nat (n d : Nat) : (n : Int).tmod (d : Int) = ((n % d : Nat) : Int) := rfl

theorem begin_ok (h : H) : Ev T n_cyclo_begin [] h (fun v h' => ∃ tid mid, v = .ptr tid 0 ∧ Tb h' tid mid h.next ∧ Fr h h') := by
  refine Ev_of t_cyclo_begin rfl ?_
  simp only [c_cyclo_begin, initV_eq, go_sem]
  have e1 : bldV [.nilm] [(0, 1, .mp h.next)] = some (.agg [.mp h.next]) := rfl
  have e2 : boxV (h.new (.map [])) (.agg [.mp h.next]) = some (.ptr (h.next + 1) 0, (h.new (.map [])).new (.cells false [.mp h.next])) := rfl
  simp only [e1, e2, go_sem]
  refine ⟨h.next + 1, h.next, rfl, ⟨?_, by omega, by simp only [H.next_new]; omega, by simp only [H.next_new]; omega, by omega, Nat.le_refl _, [], ?_, rfl, fun n v h => by cases h⟩, ((Fr.refl h).new _).new _⟩
  · rw [← H.next_new h (.map []), H.cell_new_same]; rfl
  · rw [H.get_new_ne _ (by rw [H.next_new]; omega), H.get_new_same]

set_option maxHeartbeats 1000000 in
theorem phi_ok (tid mid b : Nat) : ∀ (n : Nat) (h : H), 1 ≤ n → n ≤ 120 → Tb h tid mid b →
    Ev T n_cyclo_table_phi [.ptr tid 0, .int .i64 (n : Int)] h (fun v h' => Tb h' tid mid b ∧ SI h' v (phiF n) ∧ FrM mid h h') := by
  intro n
  induction n using Nat.strongRecOn with
  | ind n ih =>
  intro h hn1 hn2 ht
  refine Ev_of t_cyclo_table_phi rfl ?_
  obtain ⟨es, hes, hkeys, hfind⟩ := ht.es
  simp (disch := first | omega | (simp only [Qn] <;> omega)) only [go_sem, c_cyclo_table_phi, initV_eq, Nat.add_zero, ht.tp, hes]
  cases hf : findV .i64 (n : Int) es with
  | some v =>
    rw [lkpO_yes hkeys hf]
    simp (disch := omega) only [go_sem, List.getElem?_cons_zero, List.getElem?_cons_succ]
    have := (hfind _ _ hf).1
    rw [Int.toNat_natCast] at this
    exact ⟨ht, this, FrM.refl _ _⟩
  | none =>
    rw [lkpO_no hkeys hf]
    simp (disch := first | omega | (simp only [Qn] <;> omega)) only [go_sem, List.getElem?_cons_zero, List.getElem?_cons_succ, Int.toNat_zero, Int.toNat_natCast]
    have en : ((n : Int) + 1).toNat = n + 1 := by omega
    rw [en]
    refine Wp_loop (fun k vars h2 => ∃ (d : Nat) (p x8 x9 : V), vars = [.ptr tid 0, .int .i64 (n : Int), .nils, .nils, .bool false, p, .int .i64 (d : Int), .bool false, x8, x9] ∧ 1 ≤ d ∧ d ≤ n ∧ SI h2 p (phiAux phiF n (d - 1)) ∧ (∀ id off n c, p = .sl id off n c → h.next ≤ id) ∧ Tb h2 tid mid b ∧ FrM mid h h2 ∧ k = n - d) (n - 1)
      ⟨1, _, _, _, rfl, Nat.le_refl _, hn1, ?_, (fun _ _ _ _ e => by cases e; exact Nat.le_refl _), ?_, ?_, rfl⟩ ?_
    · have := SI.own (h := (((h.new (Ob.cells false (ints (List.replicate (n + 1) 0)))).set h.next (some (Ob.cells false (ints ((List.replicate (n + 1) 0).set 0 (-1)))))).set h.next (some (Ob.cells false (ints (((List.replicate (n + 1) 0).set 0 (-1)).set n 1)))))) (id := h.next) (ro := false) (l := xn1 n) (by simp only [H.next_set, H.next_new]; omega) (H.get_set_same ..) (.kn (n + 1))
      have hl : (xn1 n).length = n + 1 := by simp [xn1]
      rw [hl] at this
      exact this
    · exact ht.fr ((((Fr.refl h).new _).set (Nat.le_refl _) _).set (Nat.le_refl _) _)
    · exact Fr.toM ((((Fr.refl h).new _).set (Nat.le_refl _) _).set (Nat.le_refl _) _) mid
    rintro k vars h2 ⟨d, p, x8, x9, rfl, hd1, hd2, hp, hpf, ht2, hf2, rfl⟩
    simp (disch := first | omega | (simp only [Qn] <;> omega)) only [go_sem]
    have hpl : (phiAux phiF n (d - 1)).length ≤ n + 1 := by
      rw [phiAux_len]
      have : ∀ (f : Nat → Nat) k, lenAux f n k ≤ n + 1 := by
        intro f k
        induction k with
        | zero => exact Nat.le_refl _
        | succ k ih => rw [lenAux]; split <;> omega
      exact this _ _
    refine iteW_dec (fun hlt => ?_) (fun hge => ?_)
    · simp (disch := first | omega | (simp only [Qn] <;> omega)) only [go_sem]
      obtain ⟨e, rfl⟩ : ∃ e, d = e + 1 := ⟨d - 1, by omega⟩
      have hstep : phiAux phiF n (e + 1) = if n % (e + 1) = 0 then (divF (phiAux phiF n e) (phiF (e + 1))).1 else phiAux phiF n e := rfl
      refine iteW_dec (fun hz => ?_) (fun hz => ?_)
      · rw [tmod_nat] at hz
        have hz' : n % (e + 1) = 0 := by omega
        simp (disch := first | omega | (simp only [Qn] <;> omega)) only [go_sem]
        refine (ih (e + 1) (by omega) h2 (by omega) (by omega) ht2).mono ?_
        rintro v3 h3 ⟨ht3, hv3, hf3⟩
        simp (disch := first | omega | (simp only [Qn] <;> omega)) only [go_sem]
        have hl3 := phi_len (n := e + 1) (by omega) (by omega)
        refine (divide_ok p v3 _ _ h3 (hp.monoM ht2.isMap hf3) hv3 (by omega) (by omega) (by omega)).mono ?_
        rintro v4 h4 ⟨q, r, rfl, hf4, hq, hr, hqf⟩
        simp (disch := first | omega | (simp only [Qn] <;> omega)) only [go_sem, List.getElem?_cons_zero, List.getElem?_cons_succ]
        rw [show ((e + 1 : Nat) : Int) + 1 = ((e + 2 : Nat) : Int) from by omega]
        refine ⟨n - (e + 2), by omega, e + 2, _, _, _, rfl, by omega, by omega, ?_, (fun id off n c e => Nat.le_trans (Nat.le_trans hf2.next hf3.next) (hqf id off n c e)), ht3.fr hf4, (hf2.trans hf3).trans (hf4.toM mid), rfl⟩
        · rw [show e + 2 - 1 = e + 1 from rfl, hstep, if_pos hz']
          exact hq
      · rw [tmod_nat] at hz
        have hz' : ¬ n % (e + 1) = 0 := by omega
        simp (disch := first | omega | (simp only [Qn] <;> omega)) only [go_sem]
        rw [show ((e + 1 : Nat) : Int) + 1 = ((e + 2 : Nat) : Int) from by omega]
        refine ⟨n - (e + 2), by omega, e + 2, _, _, _, rfl, by omega, by omega, ?_, hpf, ht2, hf2, rfl⟩
        · rw [show e + 2 - 1 = e + 1 from rfl, hstep, if_neg hz']
          exact hp
    · have : d = n := by omega
      subst this
      obtain ⟨es2, hes2, hkeys2, hfind2⟩ := ht2.es
      simp (disch := first | omega | (simp only [Qn] <;> omega)) only [go_sem, Nat.add_zero, ht2.tp, hes2, msetO_map hkeys2]
      rw [← phiF_eq d hn1] at hp
      have hF : FrM mid h (h2.set mid (some (.map (setV .i64 (d : Int) p es2)))) := hf2.setMap hes2 hkeys2 _ hpf (fun m => findV_set hkeys2)
      have hm := ht2.isMap
      have hne : ∀ v, SI h2 v [] ∨ True → ∀ l, SI h2 v l → SI (h2.set mid (some (.map (setV .i64 (d : Int) p es2)))) v l := fun v _ l hs => SV.set_ne hs (fun off len c e => by
        subst e
        rcases hs with ⟨h6, _⟩ | ⟨id, _, _, _, _, _, h6, _, h7, h8, _⟩
        · cases h6
        · cases h6; rw [hes2] at h8; cases h8) _
      have hp' := hne p (.inr trivial) _ hp
      refine ⟨⟨?_, ht2.ne, ht2.tlt, ht2.mlt, ht2.tb, ht2.mb, _, H.get_set_same .., keysV_set hkeys2, fun m v hv => ?_⟩, hp', hF⟩
      · rw [H.cell_set_ne _ ht2.ne]; exact ht2.tp
      · rw [findV_set hkeys2] at hv
        split at hv
        · rename_i hmd
          cases hv
          rw [hmd, Int.toNat_natCast]
          have hpl := (phi_len hn1 hn2).1
          exact ⟨hp', fun e => by rw [e] at hpl; simp at hpl⟩
        · exact ⟨hne v (.inr trivial) _ (hfind2 m v hv).1, (hfind2 m v hv).2⟩
end Go.Proofs.Ythfabknpogbcaaa
/- Contracts: comparing, searching, residues. -/
namespace Go.Proofs.Ythfabknpogbcaaa
open Go Go.Ay
set_option maxRecDepth 100000

theorem tmod_bd (a : Int) {n : Int} (hn : 0 < n) : -n < a.tmod n ∧ a.tmod n < n := by
  have h1 := Int.tmod_lt_of_pos a hn
  refine ⟨?_, h1⟩
  rcases Int.le_total 0 a with h | h
  · have := Int.tmod_nonneg n h; omega
  · have h2 := Int.tmod_lt_of_pos (-a) hn
    rw [Int.neg_tmod] at h2
    omega
theorem tmod_fix (a : Int) {n : Int} (hn : 0 < n) : (if a.tmod n < 0 then a.tmod n + n else a.tmod n) = a % n := by
  have h0 := tmod_bd a hn
  have h1 : a.tmod n = a - n * (a.tdiv n) := by have := Int.mul_tdiv_add_tmod a n; omega
  have h2 : a % n = a - n * (a / n) := Int.emod_def a n
  have h3 := Int.emod_nonneg a (show n ≠ 0 by omega)
  have h4 := Int.emod_lt_of_pos a hn
  have h5 : (a.tmod n) % n = a % n := by
    rw [h1, Int.sub_emod, Int.mul_emod_right, Int.sub_zero, Int.emod_emod]
  split
  · rw [← h5, ← Int.emod_eq_of_lt (a := a.tmod n + n) (b := n) (by omega) (by omega), Int.add_emod_right]
  · rw [← h5, Int.emod_eq_of_lt (by omega) (by omega)]
theorem tmod_twice (a : Int) {n : Int} (hn : 0 < n) : (a.tmod n + n).tmod n = a % n := by
  have h0 := tmod_bd a hn
  have h5 := tmod_fix a hn
  rw [Int.tmod_eq_emod_of_nonneg (by omega), Int.add_emod_right]
  split at h5
  · rw [← h5, ← Int.emod_eq_of_lt (a := a.tmod n + n) (b := n) (by omega) (by omega), Int.add_emod_right]
  · rw [← h5, Int.emod_eq_of_lt (by omega) (by omega)]

theorem pick_ok (a n : Int) (h : H) (hn : 0 < n) (hn2 : n < 1000000000) : Ev T n_kit_Pick [.int .i64 a, .int .i64 n] h (fun v h' => v = .int .i64 (a % n) ∧ h' = h) := by
  refine Ev_of t_kit_Pick rfl ?_
  have h0 := tmod_bd a hn
  have h1 := tmod_fix a hn
  simp (disch := first | omega | (simp only [Qn] <;> omega)) only [go_sem, c_kit_Pick, initV_eq]
  refine iteW_dec (fun hlt => ?_) (fun hge => ?_)
  · rw [if_pos hlt] at h1
    simp (disch := first | omega | (simp only [Qn] <;> omega)) only [go_sem]
    exact ⟨by rw [h1], trivial⟩
  · rw [if_neg hge] at h1
    simp (disch := first | omega | (simp only [Qn] <;> omega)) only [go_sem]
    exact ⟨by rw [h1], trivial⟩
theorem residue_ok (a n : Int) (h : H) (hn : 0 < n) (hn2 : n < 1000000000) : Ev T n_cyclo_residue [.int .i64 a, .int .i64 n] h (fun v h' => v = .int .i64 (a % n) ∧ h' = h) := by
  refine Ev_of t_cyclo_residue rfl ?_
  have h0 := tmod_bd a hn
  have h1 := tmod_twice a hn
  simp (disch := first | omega | (simp only [Qn] <;> omega)) only [go_sem, c_cyclo_residue, initV_eq]
  exact ⟨by rw [h1], trivial⟩

def overF (x : Int) : Bool := decide (x < -10000000) || decide (10000000 < x)
theorem over_ok (x : Int) (h : H) : Ev T n_cyclo_over [.int .i64 x] h (fun v h' => v = .bool (overF x) ∧ h' = h) := by
  refine Ev_of t_cyclo_over rfl ?_
  simp (disch := first | omega | (simp only [Qn] <;> omega)) only [go_sem, c_cyclo_over, initV_eq]
  by_cases h1 : x < -10000000
  · rw [decide_eq_true h1]
    simp (disch := first | omega | (simp only [Qn] <;> omega)) only [go_sem]
    exact ⟨by rw [overF, decide_eq_true h1]; rfl, trivial⟩
  · rw [decide_eq_false h1]
    simp (disch := first | omega | (simp only [Qn] <;> omega)) only [go_sem]
    exact ⟨by rw [overF, decide_eq_false h1]; rfl, trivial⟩

theorem nz_ok (x : Int) (h : H) : Ev T n_cyclo_table_lower_1 [.int .i64 x] h (fun v h' => v = .bool (decide (x ≠ 0)) ∧ h' = h) := by
  refine Ev_of t_cyclo_table_lower_1 rfl ?_
  simp (disch := first | omega | (simp only [Qn] <;> omega)) only [go_sem, c_cyclo_table_lower_1, initV_eq]

/-- A test of integers that leaves the heap alone. -/
def TestF (f : V) (P : Int → Bool) : Prop := ∀ x h, callP T f [.int .i64 x] h (fun v h' => v = .bool (P x) ∧ h' = h)
def indexF (P : Int → Bool) (l : List Int) : Int := match l.findIdx? P with | some i => (i : Int) | none => -1

theorem index_ok (v f : V) (l : List Int) (P : Int → Bool) (h : H) (hs : SI h v l) (hl : l.length < 1000000) (hf : TestF f P) : Ev T n_slices_IndexFunc_int_int [v, f] h (fun v h' => v = .int .i64 (indexF P l) ∧ h' = h) := by
  refine Ev_of t_slices_IndexFunc_int_int rfl ?_
  obtain ⟨id, off, hsl, hid, hc⟩ := hs.open
  simp (disch := first | omega | (simp only [Qn] <;> omega)) only [go_sem, c_slices_IndexFunc_int_int, initV_eq, hs.lens]
  refine Wp_loop (fun k vars h2 => ∃ (i : Nat) (x3 x6 x7 : V), vars = [v, f, .int .i64 0, x3, .int .i64 (l.length : Int), .int .i64 (i : Int), x6, x7] ∧ i ≤ l.length ∧ (∀ j, j < i → P (l.getD j 0) = false) ∧ h2 = h ∧ k = l.length - i) l.length
    ⟨0, _, _, _, rfl, Nat.zero_le _, fun j hj => by omega, rfl, rfl⟩ ?_
  rintro k vars h2 ⟨i, x3, x6, x7, rfl, hi, hb, rfl, rfl⟩
  simp (disch := first | omega | (simp only [Qn] <;> omega)) only [go_sem]
  refine iteW_dec (fun hlt => ?_) (fun hge => ?_)
  · simp (disch := first | omega | (simp only [Qn] <;> omega)) only [go_sem, hsl.ixa, hc, Int.toNat_natCast]
    refine (hf _ _).mono ?_
    rintro v1 h1 ⟨rfl, rfl⟩
    simp (disch := first | omega | (simp only [Qn] <;> omega)) only [go_sem]
    refine iteW_bool (fun hp => ?_) (fun hp => ?_)
    · simp (disch := first | omega | (simp only [Qn] <;> omega)) only [go_sem]
      refine ⟨?_, trivial⟩
      have : l.findIdx? P = some i := by
        rw [List.findIdx?_eq_some_iff_getElem]
        have hi' : i < l.length := by omega
        refine ⟨hi', ?_, fun j hj => ?_⟩
        · rw [List.getD_eq_getElem?_getD, List.getElem?_eq_getElem hi'] at hp; exact hp
        · have := hb j hj
          rw [List.getD_eq_getElem?_getD, List.getElem?_eq_getElem (by omega)] at this
          simpa using this
      rw [indexF, this]
    · simp (disch := first | omega | (simp only [Qn] <;> omega)) only [go_sem]
      rw [show (i : Int) + 1 = ((i + 1 : Nat) : Int) from by omega]
      refine ⟨l.length - (i + 1), by omega, i + 1, _, _, _, rfl, by omega, fun j hj => ?_, rfl⟩
      by_cases h3 : j = i
      · rw [h3]; exact hp
      · exact hb j (by omega)
  · simp (disch := first | omega | (simp only [Qn] <;> omega)) only [go_sem]
    refine ⟨?_, trivial⟩
    have : l.findIdx? P = none := by
      rw [List.findIdx?_eq_none_iff]
      intro x hx
      obtain ⟨j, hj, rfl⟩ := List.getElem_of_mem hx
      have := hb j (by omega)
      rw [List.getD_eq_getElem?_getD, List.getElem?_eq_getElem hj] at this
      exact this
    rw [indexF, this]
theorem any_index (P : Int → Bool) (l : List Int) : decide (0 ≤ indexF P l) = l.any P := by
  rw [indexF]
  cases hf : l.findIdx? P with
  | none =>
    rw [List.findIdx?_eq_none_iff] at hf
    have : l.any P = false := by rw [List.any_eq_false]; intro x hx; rw [hf x hx]; simp
    rw [this]; rfl
  | some i =>
    rw [List.findIdx?_eq_some_iff_getElem] at hf
    obtain ⟨h1, h2, _⟩ := hf
    have : l.any P = true := by rw [List.any_eq_true]; exact ⟨_, List.getElem_mem h1, h2⟩
    rw [this]; simp
theorem contains_ok (v f : V) (l : List Int) (P : Int → Bool) (h : H) (hs : SI h v l) (hl : l.length < 1000000) (hf : TestF f P) : Ev T n_slices_ContainsFunc_int_int [v, f] h (fun v h' => v = .bool (l.any P) ∧ h' = h) := by
  refine Ev_of t_slices_ContainsFunc_int_int rfl ?_
  simp (disch := first | omega | (simp only [Qn] <;> omega)) only [go_sem, c_slices_ContainsFunc_int_int, initV_eq]
  refine (index_ok v f l P h hs hl hf).mono ?_
  rintro v1 h1 ⟨rfl, rfl⟩
  simp (disch := first | omega | (simp only [Qn] <;> omega)) only [go_sem, any_index]
theorem test_over : TestF (.fn 52 [] []) overF := fun x h => over_ok x h
theorem test_nz : TestF (.fn 81 [] []) (fun x => decide (x ≠ 0)) := fun x h => nz_ok x h

theorem eq_of_getD {a b : List Int} (hl : a.length = b.length) (h : ∀ j, j < a.length → a.getD j 0 = b.getD j 0) : a = b := by
  apply List.ext_getElem hl
  intro i h1 h2
  have := h i h1
  rw [List.getD_eq_getElem?_getD, List.getElem?_eq_getElem h1, List.getD_eq_getElem?_getD, List.getElem?_eq_getElem h2] at this
  exact this

theorem equal_ok (va vb : V) (a b : List Int) (h : H) (ha : SI h va a) (hb : SI h vb b) (hla : a.length < 1000000) (hlb : b.length < 1000000) : Ev T n_slices_Equal_int_int [va, vb] h (fun v h' => v = .bool (decide (a = b)) ∧ Fr h h') := by
  refine Ev_of t_slices_Equal_int_int rfl ?_
  obtain ⟨id, off, hsl, hid, hc⟩ := ha.open
  obtain ⟨id2, off2, hsl2, hid2, hc2⟩ := hb.open
  simp (disch := first | omega | (simp only [Qn] <;> omega)) only [go_sem, c_slices_Equal_int_int, initV_eq, ha.lens, hb.lens]
  refine iteW_dec (fun hne => ?_) (fun heq => ?_)
  · simp (disch := first | omega | (simp only [Qn] <;> omega)) only [go_sem]
    have : a ≠ b := fun e => hne (by rw [e])
    exact ⟨by rw [decide_eq_false this], Fr.refl h⟩
  have heq : a.length = b.length := by omega
  simp (disch := first | omega | (simp only [Qn] <;> omega)) only [go_sem, ha.lens]
  refine Wp_loop (fun k vars h2 => ∃ (i : Nat) (x3 x7 x8 : V), vars = [va, vb, .bool false, x3, .bool (decide ((a.length : Int) ≠ (b.length : Int))), .int .i64 (a.length : Int), .int .i64 (i : Int), x7, x8] ∧ i ≤ a.length ∧ (∀ j, j < i → a.getD j 0 = b.getD j 0) ∧ Fr h h2 ∧ k = a.length - i) a.length
    ⟨0, _, _, _, rfl, Nat.zero_le _, fun j hj => by omega, Fr.refl h, rfl⟩ ?_
  rintro k vars h2 ⟨i, x3, x7, x8, rfl, hi, hpre, hf2, rfl⟩
  simp (disch := first | omega | (simp only [Qn] <;> omega)) only [go_sem]
  refine iteW_dec (fun hlt => ?_) (fun hge => ?_)
  · have hc' := cells_fr hf2 hid hc
    have hc2' := cells_fr hf2 hid2 hc2
    simp (disch := first | omega | (simp only [Qn] <;> omega)) only [go_sem, hsl.ixa, hsl2.ixa, hc', hc2', Int.toNat_natCast]
    refine iteW_dec (fun hne => ?_) (fun he => ?_)
    · simp (disch := first | omega | (simp only [Qn] <;> omega)) only [go_sem]
      have : a ≠ b := fun e => hne (by rw [e])
      exact ⟨by rw [decide_eq_false this], hf2.bump (by omega)⟩
    · simp (disch := first | omega | (simp only [Qn] <;> omega)) only [go_sem]
      rw [show (i : Int) + 1 = ((i + 1 : Nat) : Int) from by omega]
      refine ⟨a.length - (i + 1), by omega, i + 1, _, _, _, rfl, by omega, fun j hj => ?_, hf2.bump (by omega), rfl⟩
      by_cases h3 : j = i
      · rw [h3]; exact Decidable.byContradiction he
      · exact hpre j (by omega)
  · simp (disch := first | omega | (simp only [Qn] <;> omega)) only [go_sem]
    have : a = b := eq_of_getD heq fun j hj => hpre j (by omega)
    exact ⟨by rw [decide_eq_true this], hf2⟩

theorem same_ok (va vb : V) (a b : List Int) (h : H) (ha : SI h va a) (hb : SI h vb b) (hla : a.length < 1000000) (hlb : b.length < 1000000) : Ev T n_kit_Same_int [va, vb] h (fun v h' => v = .bool (decide (a = b)) ∧ Fr h h') := by
  refine Ev_of t_kit_Same_int rfl ?_
  obtain ⟨id, off, hsl, hid, hc⟩ := ha.open
  obtain ⟨id2, off2, hsl2, hid2, hc2⟩ := hb.open
  simp (disch := first | omega | (simp only [Qn] <;> omega)) only [go_sem, c_kit_Same_int, initV_eq, ha.lens, hb.lens]
  refine iteW_dec (fun hne => ?_) (fun heq => ?_)
  · simp (disch := first | omega | (simp only [Qn] <;> omega)) only [go_sem]
    have : a ≠ b := fun e => hne (by rw [e])
    exact ⟨by rw [decide_eq_false this], Fr.refl h⟩
  have heq : a.length = b.length := by omega
  simp (disch := first | omega | (simp only [Qn] <;> omega)) only [go_sem, ha.lens]
  refine Wp_loop (fun k vars h2 => ∃ (i : Nat) (x4 x5 x6 : V), vars = [va, vb, .bool false, .int .i64 (i : Int), x4, x5, x6] ∧ i ≤ a.length ∧ (∀ j, j < i → a.getD j 0 = b.getD j 0) ∧ Fr h h2 ∧ k = a.length - i) a.length
    ⟨0, _, _, _, rfl, Nat.zero_le _, fun j hj => by omega, Fr.refl h, rfl⟩ ?_
  rintro k vars h2 ⟨i, x3, x7, x8, rfl, hi, hpre, hf2, rfl⟩
  simp (disch := first | omega | (simp only [Qn] <;> omega)) only [go_sem, ha.lens]
  refine iteW_dec (fun hlt => ?_) (fun hge => ?_)
  · have hc' := cells_fr hf2 hid hc
    have hc2' := cells_fr hf2 hid2 hc2
    simp (disch := first | omega | (simp only [Qn] <;> omega)) only [go_sem, hsl.ixa, hsl2.ixa, hc', hc2', Int.toNat_natCast]
    refine iteW_dec (fun hne => ?_) (fun he => ?_)
    · simp (disch := first | omega | (simp only [Qn] <;> omega)) only [go_sem]
      have : a ≠ b := fun e => hne (by rw [e])
      exact ⟨by rw [decide_eq_false this], hf2.bump (by omega)⟩
    · simp (disch := first | omega | (simp only [Qn] <;> omega)) only [go_sem]
      rw [show (i : Int) + 1 = ((i + 1 : Nat) : Int) from by omega]
      refine ⟨a.length - (i + 1), by omega, i + 1, _, _, _, rfl, by omega, fun j hj => ?_, hf2.bump (by omega), rfl⟩
      by_cases h3 : j = i
      · rw [h3]; exact Decidable.byContradiction he
      · exact hpre j (by omega)
  · simp (disch := first | omega | (simp only [Qn] <;> omega)) only [go_sem]
    have : a = b := eq_of_getD heq fun j hj => hpre j (by omega)
    exact ⟨by rw [decide_eq_true this], hf2⟩
end Go.Proofs.Ythfabknpogbcaaa
/- Contracts of the reference: gcd, divide. -/
namespace Go.Proofs.Ythfabknpogbcaaa
open Go Go.Ay
set_option maxRecDepth 100000

theorem rgcd_ok (a b : Int) (h : H) (ha : 0 ≤ a) (hb : 0 ≤ b) : Ev T n_ref06_gcd [.int .i64 a, .int .i64 b] h (fun v h' => v = .int .i64 (Int.gcd a b) ∧ Fr h h') := by
  refine Ev_of t_ref06_gcd rfl ?_
  simp (disch := first | omega | (simp only [Qn] <;> omega)) only [go_sem, c_ref06_gcd, initV_eq]
  refine Wp_loop (fun k vars h1 => ∃ a' b' : Int, (∃ g : Nat → V, vars = [.int .i64 a', .int .i64 b', g 2, g 3]) ∧ 0 ≤ a' ∧ 0 ≤ b' ∧ Int.gcd a' b' = Int.gcd a b ∧ Fr h h1 ∧ k = b'.toNat) _ ⟨_, _, ex_junk rfl, ha, hb, rfl, Fr.refl h, rfl⟩ ?_
  rintro k vars h1 ⟨a', b', ⟨g, rfl⟩, ha', hb', hg, hfr, rfl⟩
  simp (disch := first | omega | (simp only [Qn] <;> omega)) only [go_sem]
  refine iteW_dec (fun hlt => ?_) (fun hge => ?_)
  · simp (disch := first | omega | (simp only [Qn] <;> omega)) only [go_sem]
    have h3 := Int.tmod_eq_emod_of_nonneg ha' (b := b')
    have h4 := Int.emod_nonneg a' (show b' ≠ 0 by omega)
    have h5 := Int.emod_lt_of_pos a' (show 0 < b' by omega)
    exact ⟨_, (by rw [h3]; omega), _, _, ex_junk rfl, hb', by rw [h3]; exact h4, by rw [gcd_step _ _ ha', hg], hfr.bump (by omega), rfl⟩
  · simp (disch := first | omega | (simp only [Qn] <;> omega)) only [go_sem]
    have : b' = 0 := by omega
    subst this
    refine ⟨?_, hfr⟩
    rw [← hg, Int.gcd_zero_right]
    congr 1; omega

set_option maxHeartbeats 1000000 in
theorem rdivide_okS (va vb : V) (a b : List Int) (h : H) (ha : SI h va a) (hb : SI h vb b) (ha1 : a.length < 1000000) (hb0 : 0 < b.length) (hb1 : b.length < 1000000) :
    Ev T n_ref06_divide [va, vb] h (fun v h' => ∃ q r, v = .tup [q, r] ∧ Fr h h' ∧ SI h' q (divS a b).1 ∧ Own h' r 1 (ints (divS a b).2) h.next ∧ (∀ id off n c, q = .sl id off n c → h.next ≤ id)) := by
  refine Ev_of t_ref06_divide rfl ?_
  have hlb := hb.lens
  have hla := ha.lens
  simp (disch := first | omega | (simp only [Qn] <;> omega)) only [go_sem, c_ref06_divide, initV_eq]
  refine (own_ok va a h ha ha1).mono ?_
  rintro r0 h1 ⟨ho1, hf1, hcap⟩
  simp (disch := first | omega | (simp only [Qn] <;> omega)) only [go_sem, hla, hlb]
  obtain ⟨bid, boff, hbs, hbid, hbc⟩ := hb.open
  obtain ⟨d, hd1⟩ : ∃ d : Nat, b.length = d + 1 := ⟨b.length - 1, by omega⟩
  have eb : (b.length : Int) - 1 = (d : Int) := by omega
  rw [eb]
  obtain ⟨n, hn⟩ : ∃ n : Nat, n = a.length - d := ⟨_, rfl⟩
  have en : (if (a.length : Int) - (d : Int) > 0 then (a.length : Int) - (d : Int) else 0) = (n : Int) := by split <;> omega
  rw [en]
  clear en
  simp (disch := first | omega | (simp only [Qn] <;> omega)) only [go_sem, hla]
  by_cases hd : d < a.length
  · have en2 : (a.length : Int) - 1 - (d : Int) = (n : Int) - 1 := by clear hcap; omega
    rw [en2]
    obtain ⟨rid, rfl, hrid, hrid2, hrg⟩ := hcap (by omega)
    clear hcap
    refine Wp_loop (fun k vars h2 => ∃ (q r : List Int), (∃ g : Nat → V, vars = [va, vb, .sl h1.next 0 n (.kn n), .sl rid 0 a.length (.un 1), .int .i64 d, .int .i64 ((k : Int) - 1), g 6, g 7, g 8, g 9]) ∧ k ≤ n ∧ q.length = n ∧ r.length = a.length ∧
      h2.get h1.next = some (.cells false (ints q)) ∧ h2.get rid = some (.cells false (ints r)) ∧ Fr h h2 ∧ h1.next < h2.next ∧ divGo d b k q r = divGo d b n (List.replicate n 0) a) n
      ⟨_, a, ex_junk rfl, Nat.le_refl _, List.length_replicate, rfl, H.get_new_same .., by rw [H.get_new_ne _ (by omega)]; exact hrg, hf1.new _, by rw [H.next_new]; omega, rfl⟩ ?_
    rintro k vars h2 ⟨q, r, ⟨g, rfl⟩, hN, hq, hr, hqg, hrg2, hf2, hnx, hdiv⟩
    simp (disch := first | omega | (simp only [Qn] <;> omega)) only [go_sem]
    refine iteW_dec (fun hge => ?_) (fun hlt => ?_)
    · obtain ⟨M, rfl⟩ : ∃ M, k = M + 1 := ⟨k - 1, by omega⟩
      have eM : ((M + 1 : Nat) : Int) - 1 = (M : Int) := by omega
      rw [eM]
      have ei : ((M : Int) + (d : Int)).toNat = M + d := by omega
      simp (disch := first | omega | (simp only [Qn] <;> omega)) only [go_sem, own_cell hrg2, hqg, ei, Int.toNat_natCast]
      refine Wp_loop (fun k3 vars h3 => ∃ (r3 : List Int) (k : Nat), (∃ g : Nat → V, vars = [va, vb, .sl h1.next 0 n (.kn n), .sl rid 0 a.length (.un 1), .int .i64 d, .int .i64 (M : Int), .int .i64 (r.getD (M + d) 0), .int .i64 (k : Int), g 8, g 9]) ∧ k ≤ b.length ∧
        h3.get h1.next = some (.cells false (ints (q.set M (r.getD (M + d) 0)))) ∧ h3.get rid = some (.cells false (ints r3)) ∧ r3 = subAt (r.getD (M + d) 0) M (b.take k) r ∧ Fr h h3 ∧ h1.next < h3.next ∧ k3 = b.length - k) b.length
        ⟨r, 0, ex_junk rfl, Nat.zero_le _, H.get_set_same .., by rw [H.get_set_ne _ (by omega)]; exact hrg2, rfl, hf2.set (by have := hf1.next; omega) _, hnx, rfl⟩ ?_
      rintro k3 vars h3 ⟨r3, k, ⟨g, rfl⟩, hk, hqg3, hrg3, hr3, hf3, hnx3, rfl⟩
      have hlr3 : r3.length = a.length := by rw [hr3, subAt_len, hr]
      simp (disch := first | omega | (simp only [Qn] <;> omega)) only [go_sem]
      refine iteW_dec (fun hkl => ?_) (fun hkl => ?_)
      · have hcb := cells_fr hf3 hbid hbc
        have ek : ((M : Int) + (k : Int)).toNat = M + k := by omega
        simp (disch := first | omega | (simp only [Qn] <;> omega)) only [go_sem, hbs.ixa, hcb, own_cell hrg3, hrg3, ek, Int.toNat_natCast]
        rw [show (k : Int) + 1 = ((k + 1 : Nat) : Int) from by omega]
        refine ⟨b.length - (k + 1), by omega, _, k + 1, ex_junk rfl, by omega, ?_, rfl, ?_, (hf3.bump (by omega)).set (by omega) _, ?_, rfl⟩
        · exact hqg3
        · rw [take_succ_getD _ _ (by omega), subAt_snoc, List.length_take, Nat.min_eq_left (by omega), ← hr3]
        · show h1.next < h3.next + _; omega
      · have hk2 : k = b.length := by omega
        subst hk2
        rw [List.take_length] at hr3
        simp (disch := first | omega | (simp only [Qn] <;> omega)) only [go_sem]
        refine ⟨M, by omega, _, _, ex_junk rfl, by omega, by rw [List.length_set, hq], hlr3, hqg3, hrg3, hf3, hnx3, ?_⟩
        rw [← hdiv, divGo, hr3]
    · have hk0 : k = 0 := by omega
      subst hk0
      simp (disch := first | omega | (simp only [Qn] <;> omega)) only [go_sem, hqg, hrg2]
      rw [show (if (d : Int) < (a.length : Int) then (d : Int) else a.length) = (d : Int) from if_pos (by omega), slc_un (by omega) (by omega)]
      simp (disch := first | omega | (simp only [Qn] <;> omega)) only [go_sem]
      have hDF : divS a b = (q, r.take d) := by
        have : b.length - 1 = d := by omega
        simp only [divS, this, show a.length - d = n by omega, ← hdiv, divGo, Nat.min_eq_left (show d ≤ a.length by omega)]
      rw [hDF]
      refine ⟨_, _, rfl, hf2.bump (by omega), ?_, ?_, fun _ _ _ _ e => by cases e; exact hf1.next⟩
      · have := SI.own (h := (H.mk h2.tr (h2.next + 9))) (id := h1.next) (l := q) (ro := false) (by show h1.next < h2.next + 9; omega) hqg (.kn n)
        rw [hq] at this; exact this
      · refine .inr ⟨rid, d, _, ints (r.drop d), rfl, by rw [ints_length, List.length_take]; omega, .inl rfl, hrid, by show rid < h2.next + 9; omega, ?_⟩
        rw [← ints_append, List.take_append_drop]
        exact hrg2
  · have hn0 : n = 0 := by omega
    subst hn0
    refine Wp_loop_unroll ?_
    simp (disch := first | omega | (simp only [Qn] <;> omega)) only [go_sem]
    rw [iteW_neg (by omega)]
    have hlr : lensV r0 = some (.int .i64 (a.length : Int)) := SI.lens (h := h1) ho1.sv
    simp (disch := first | omega | (simp only [Qn] <;> omega)) only [go_sem, hlr]
    obtain ⟨r1, e1, o1⟩ := own_slc_all ho1
    have hmin : (if (d : Int) < (a.length : Int) then (d : Int) else a.length) = (a.length : Int) := by split <;> omega
    rw [hmin, e1]
    simp (disch := first | omega | (simp only [Qn] <;> omega)) only [go_sem]
    have hDF : divS a b = ([], a) := by
      have : b.length - 1 = d := by omega
      simp only [divS, this, show a.length - d = 0 by omega, divGo, List.replicate_zero, Nat.min_eq_right (show a.length ≤ d by omega), List.take_length]
    rw [hDF]
    refine ⟨_, _, rfl, (hf1.new _).bump (by rw [H.next_new]; omega), ?_, o1.fr (((Fr.refl h1).new _).bump (by rw [H.next_new]; omega)), fun _ _ _ _ e => by cases e; exact hf1.next⟩
    exact SI.own (h := H.mk (h1.new (.cells false (ints []))).tr (h1.next + 1 + 9)) (l := []) (id := h1.next) (ro := false) (by show h1.next < h1.next + 1 + 9; omega) (H.get_new_same ..) (.kn 0)
theorem rdivide_ok (va vb : V) (a b : List Int) (h : H) (ha : SI h va a) (hb : SI h vb b) (ha1 : a.length < 1000000) (hb0 : 0 < b.length) (hb1 : b.length < 1000000) :
    Ev T n_ref06_divide [va, vb] h (fun v h' => ∃ q r, v = .tup [q, r] ∧ Fr h h' ∧ SI h' q (divF a b).1 ∧ Own h' r 1 (ints (divF a b).2) h.next ∧ (∀ id off n c, q = .sl id off n c → h.next ≤ id)) := by
  rw [← divS_eq a b hb0]
  exact rdivide_okS va vb a b h ha hb ha1 hb0 hb1
end Go.Proofs.Ythfabknpogbcaaa
/- Contracts: reduced, inverse. -/
namespace Go.Proofs.Ythfabknpogbcaaa
open Go Go.Ay
set_option maxRecDepth 100000

theorem reduced_ok (tid mid b : Nat) (n : Nat) (vc : V) (c : List Int) (h : H) (h1 : 1 ≤ n) (h2 : n ≤ 120) (ht : Tb h tid mid b) (hc : SI h vc c) (hl : c.length < 1000000) :
    Ev T n_cyclo_table_reduced [.ptr tid 0, .int .i64 (n : Int), vc] h (fun v h' => Tb h' tid mid b ∧ Own h' v 1 (ints (redF n c)) h.next ∧ FrM mid h h' ∧ (∀ id off n c, v = .sl id off n c → Avoid h' mid id)) := by
  refine Ev_of t_cyclo_table_reduced rfl ?_
  simp (disch := first | omega | (simp only [Qn] <;> omega)) only [go_sem, c_cyclo_table_reduced, initV_eq]
  refine (phi_ok tid mid b n h h1 h2 ht).mono ?_
  rintro vp hp1 ⟨ht1, hvp, hf1⟩
  have hpl := phi_len h1 h2
  simp (disch := first | omega | (simp only [Qn] <;> omega)) only [go_sem]
  refine (divide_ok vc vp c (phiF n) hp1 (hc.monoM ht.isMap hf1) hvp hl (by omega) (by omega)).mono ?_
  rintro v4 h4 ⟨q, r, rfl, hf4, hq, hr, _⟩
  have hlr : lensV r = some (.int .i64 ((divF c (phiF n)).2.length : Int)) := SI.lens (h := h4) hr.sv
  have hl2 := divF_len2 c (phiF n)
  simp (disch := first | omega | (simp only [Qn] <;> omega)) only [go_sem, List.getElem?_cons_zero, List.getElem?_cons_succ, (hvp.mono hf4).lens, hlr, apzP_int]
  have e1 : ((phiF n).length : Int) - 1 - ((divF c (phiF n)).2.length : Int) = (((phiF n).length - 1 - (divF c (phiF n)).2.length : Nat) : Int) := by omega
  rw [e1, Int.toNat_natCast]
  obtain ⟨v5, h5, e, a⟩ := hr.appV (bytes := 8) (n := (divF c (phiF n)).2.length) (m := (phiF n).length - 1 - (divF c (phiF n)).2.length) (us := ints (List.replicate ((phiF n).length - 1 - (divF c (phiF n)).2.length) 0)) hf4.next (by rw [ints_length, Nat.mul_one]) (by rw [ints_length, List.length_replicate, Nat.mul_one]) (by omega) (by omega)
  rw [e]
  simp (disch := first | omega | (simp only [Qn] <;> omega)) only [go_sem]
  have hf5 : Fr hp1 h5 := a.fr hp1 hf4 (Nat.le_refl _)
  have := a.own
  rw [← ints_append] at this
  refine ⟨ht1.fr hf5, this.le hf1.next, hf1.trans (hf5.toM mid), fun id off n c e => ?_⟩
  rcases this with ⟨h6, _⟩ | ⟨id', _, _, _, h6, _, _, h7, _⟩
  · rw [h6] at e; cases e
  · rw [h6] at e; cases e
    exact (ht1.avoid h7).fr (hf5.get mid ht1.mlt)

theorem inverse_ok (a m x0 : Nat) (h : H) (ha : a ≤ 120) (h1 : 1 ≤ m) (h2 : m ≤ 120) (hx : firstF (fun x => a * x % m == 1 % m) (m + 1) = some x0) :
    Ev T n_cyclo_inverse [.int .i64 (a : Int), .int .i64 (m : Int)] h (fun v h' => v = .int .i64 ((invF a m : Nat) : Int) ∧ Fr h h') := by
  refine Ev_of t_cyclo_inverse rfl ?_
  obtain ⟨f1, f2, f3⟩ := first_some hx
  have hinv : invF a m = x0 := by rw [invF, hx]; rfl
  simp (disch := first | omega | (simp only [Qn] <;> omega)) only [go_sem, c_cyclo_inverse, initV_eq]
  refine Wp_loop (fun k vars h2 => ∃ (x : Nat) (x4 : V), vars = [.int .i64 (a : Int), .int .i64 (m : Int), .int .i64 0, .int .i64 (x : Int), x4] ∧ x ≤ x0 ∧ Fr h h2 ∧ k = x0 - x) x0
    ⟨0, _, rfl, Nat.zero_le _, Fr.refl h, rfl⟩ ?_
  rintro k vars h2 ⟨x, x4, rfl, hx0, hf2, rfl⟩
  have hb1 : a * x ≤ 120 * 121 := Nat.mul_le_mul ha (by omega)
  have hb2 : ((a : Int) * (x : Int)) = ((a * x : Nat) : Int) := (Int.natCast_mul a x).symm
  simp (disch := first | omega | (simp only [Qn] <;> omega)) only [go_sem, hb2]
  have e1 : ((a * x : Nat) : Int).tmod (m : Int) = ((a * x % m : Nat) : Int) := tmod_nat ..
  have e2 : (1 : Int).tmod (m : Int) = ((1 % m : Nat) : Int) := tmod_nat 1 m
  rw [e1, e2]
  refine iteW_dec (fun hne => ?_) (fun heq => ?_)
  · have hlt : x < x0 := by
      rcases Nat.lt_or_ge x x0 with h | h
      · exact h
      · have : x = x0 := by omega
        subst this
        simp at f2
        omega
    simp (disch := first | omega | (simp only [Qn] <;> omega)) only [go_sem]
    rw [show (x : Int) + 1 = ((x + 1 : Nat) : Int) from by omega]
    exact ⟨x0 - (x + 1), by omega, x + 1, _, rfl, by omega, hf2.bump (by omega), rfl⟩
  · have : x = x0 := by
      rcases Nat.lt_or_ge x x0 with h | h
      · have := f3 x h
        simp at this
        omega
      · omega
    simp (disch := first | omega | (simp only [Qn] <;> omega)) only [go_sem]
    exact ⟨by rw [hinv, this], hf2.bump (by omega)⟩

/-! the parts of a number -/
structure Grid (h : H) (P m : Nat) (rows : List (List Int)) : Prop where
  pg : h.get P = some (.cells false ((List.range rows.length).map fun e => V.sl (P + 1 + e) 0 m (.kn m)))
  rg : ∀ e, e < rows.length → h.get (P + 1 + e) = some (.cells false (ints (rows.getD e [])))
  rl : ∀ e, e < rows.length → (rows.getD e []).length = m
  lt : P + rows.length < h.next
theorem Grid.cell {h : H} {P m : Nat} {rows : List (List Int)} (g : Grid h P m rows) {e : Nat} (he : e < rows.length) : h.cell P e = some (.sl (P + 1 + e) 0 m (.kn m)) := by
  rw [H.cell_of g.pg, List.getElem?_map, List.getElem?_range he]; rfl
theorem Grid.at {h : H} {P m : Nat} {rows : List (List Int)} (g : Grid h P m rows) {e i : Nat} (he : e < rows.length) (hi : i < m) : h.cell (P + 1 + e) i = some (.int .i64 ((rows.getD e []).getD i 0)) :=
  own_cell (g.rg e he) i (by rw [g.rl e he]; exact hi)
theorem Grid.set {h : H} {P m : Nat} {rows : List (List Int)} (g : Grid h P m rows) {e i : Nat} (he : e < rows.length) (x : Int) : Grid (h.set (P + 1 + e) (some (.cells false (ints ((rows.getD e []).set i x))))) P m (rows.set e ((rows.getD e []).set i x)) := by
  refine ⟨?_, fun k hk => ?_, fun k hk => ?_, ?_⟩
  · rw [H.get_set_ne _ (by omega), List.length_set]; exact g.pg
  · rw [List.length_set] at hk
    rw [getD_set]
    by_cases hke : e = k
    · subst hke
      rw [H.get_set_same, if_pos rfl, if_pos he]
    · rw [H.get_set_ne _ (by omega), if_neg hke]
      exact g.rg k hk
  · rw [List.length_set] at hk
    rw [getD_set]
    by_cases hke : e = k
    · subst hke
      rw [if_pos rfl, if_pos he, List.length_set]
      exact g.rl e he
    · rw [if_neg hke]
      exact g.rl k hk
  · rw [List.length_set]; exact g.lt
theorem Grid.fr {h h' : H} {P m : Nat} {rows : List (List Int)} (g : Grid h P m rows) (f : Fr h h') : Grid h' P m rows :=
  ⟨by rw [f.get P (by have := g.lt; omega)]; exact g.pg, fun e he => by rw [f.get _ (by have := g.lt; omega)]; exact g.rg e he, g.rl, Nat.lt_of_lt_of_le g.lt f.next⟩
theorem Grid.monoM {h h' : H} {P m mid : Nat} {rows : List (List Int)} (g : Grid h P m rows) (hm : IsMap h mid) (f : FrM mid h h') : Grid h' P m rows := by
  obtain ⟨es, hm⟩ := hm
  exact ⟨by rw [f.get P (by have := g.lt; omega) (fun e => by have := g.pg; rw [e, hm] at this; cases this)]; exact g.pg, fun e he => by rw [f.get _ (by have := g.lt; omega) (fun e' => by have := g.rg e he; rw [e', hm] at this; cases this)]; exact g.rg e he, g.rl, Nat.lt_of_lt_of_le g.lt f.next⟩
theorem Grid.si {h : H} {P m : Nat} {rows : List (List Int)} (g : Grid h P m rows) {e : Nat} (he : e < rows.length) : SI h (.sl (P + 1 + e) 0 m (.kn m)) (rows.getD e []) := by
  have := SI.own (h := h) (id := P + 1 + e) (by have := g.lt; omega) (g.rg e he) (.kn m)
  rw [g.rl e he] at this
  exact this
end Go.Proofs.Ythfabknpogbcaaa
/- Contracts: with n/q in place of n. -/
namespace Go.Proofs.Ythfabknpogbcaaa
open Go Go.Ay
set_option maxRecDepth 100000

theorem parts_step (P m q k : Nat) (hk : k < q) : ((List.range k).map (fun e => V.sl (P + 1 + e) 0 m (.kn m)) ++ List.replicate (q - k) V.nils).set k (.sl (P + 1 + k) 0 m (.kn m)) = (List.range (k + 1)).map (fun e => V.sl (P + 1 + e) 0 m (.kn m)) ++ List.replicate (q - (k + 1)) V.nils := by
  rw [List.set_append_right _ _ (by simp), List.range_succ, List.map_append, List.append_assoc]
  congr 1
  obtain ⟨j, hj⟩ : ∃ j, q - k = j + 1 := ⟨q - k - 1, by omega⟩
  rw [hj, show q - (k + 1) = j by omega]
  simp [List.replicate_succ]

set_option maxHeartbeats 2000000 in
theorem lower_ok (tid mid b n q : Nat) (vc : V) (c : List Int) (h : H) (ok : LowOk n q) (hb : b ≤ h.next) (ht : Tb h tid mid b) (hc : SI h vc c) (hl : c.length ≤ n) :
    Ev T n_cyclo_table_lower [.ptr tid 0, .int .i64 (n : Int), .int .i64 (q : Int), vc] h (fun v h' => Tb h' tid mid b ∧ FrM mid h h' ∧ ∃ u t, v = .tup [u, .bool t] ∧ (match lowerF n q c with | some d => t = true ∧ SI h' u d ∧ (∀ id off n c, u = .sl id off n c → h.next ≤ id) | none => t = false)) := by
  refine Ev_of t_cyclo_table_lower rfl ?_
  obtain ⟨hn1, hn2, hq2, hdvd, hia, hib⟩ := ok
  obtain ⟨m, hm⟩ : ∃ m, n / q = m := ⟨_, rfl⟩
  have hqn : q ≤ n := by
    rcases Nat.eq_zero_or_pos m with h0 | h0
    · rw [hm, h0] at hdvd; omega
    · have : 1 * q ≤ m * q := Nat.mul_le_mul_right q h0
      rw [hm] at hdvd; omega
  have hm1 : 1 ≤ m := by
    rcases Nat.eq_zero_or_pos m with h0 | h0
    · rw [hm, h0] at hdvd; omega
    · exact h0
  have hmn : m ≤ n := by rw [← hm]; exact Nat.div_le_self n q
  have e1 : (n : Int).tdiv (q : Int) = (m : Int) := by rw [← hm]; rfl
  simp (disch := first | omega | (simp only [Qn] <;> omega)) only [go_sem, c_cyclo_table_lower, initV_eq, e1, zeros_one]
  obtain ⟨P, hP⟩ : ∃ P, h.next = P := ⟨_, rfl⟩
  rw [hP]
  refine Wp_loop (fun k' vars h2 => ∃ (k : Nat), (∃ g : Nat → V, vars = [.ptr tid 0, .int .i64 (n : Int), .int .i64 (q : Int), vc, .nils, .bool false, .int .i64 (m : Int), .sl P 0 q (.kn q), g 8, g 9, g 10, g 11, g 12, g 13, g 14, g 15, g 16, g 17, g 18, g 19, .int .i64 (q : Int), .int .i64 (k : Int), g 22, g 23, g 24, g 25, g 26, g 27, g 28, g 29, g 30, g 31, g 32, g 33, g 34, g 35, g 36, g 37, g 38, g 39, g 40, g 41, g 42, g 43, g 44, g 45, g 46, g 47, g 48]) ∧ k ≤ q ∧
      h2.get P = some (.cells false ((List.range k).map (fun e => V.sl (P + 1 + e) 0 m (.kn m)) ++ List.replicate (q - k) V.nils)) ∧ (∀ e, e < k → h2.get (P + 1 + e) = some (.cells false (ints (List.replicate m 0)))) ∧ h2.next = P + 1 + k ∧ Fr h h2 ∧ k' = q - k) q
    ⟨0, ex_junk rfl, Nat.zero_le _, ?_, fun e he => by omega, ?_, (Fr.refl h).new _, rfl⟩ ?_
  · rw [← hP, H.get_new_same]; rfl
  · rw [H.next_new]; omega
  rintro k' vars h2 ⟨k, ⟨g, rfl⟩, hk, hg, hr, hnx, hf2, rfl⟩
  simp (disch := first | omega | (simp only [Qn] <;> omega)) only [go_sem]
  by_cases hkq : (k : Int) < (q : Int)
  · rw [decide_eq_true hkq]
    have hlen : k < ((List.range k).map (fun e => V.sl (P + 1 + e) 0 m (.kn m)) ++ List.replicate (q - k) V.nils).length := by
      rw [List.length_append, List.length_map, List.length_range, List.length_replicate]; omega
    simp (disch := first | omega | (simp only [Qn] <;> omega)) only [go_sem, hg, Int.toNat_natCast, hnx]
    rw [show (k : Int) + 1 = ((k + 1 : Nat) : Int) from by omega]
    refine ⟨q - (k + 1), by omega, k + 1, ex_junk rfl, by omega, by rw [parts_step P m q k (by omega)], fun e he => ?_, by omega, (hf2.new _).set (by omega) _, rfl⟩
    by_cases hek : e = k
    · rw [hek, ← hnx, H.get_new_same]
    · rw [H.get_new_ne _ (by omega)]; exact hr e (by omega)
  · rw [decide_eq_false hkq]
    have : q = k := by omega
    subst this
    have hgrid : Grid h2 P m (gA q m c 0) := by
      have hlen : (gA q m c 0).length = q := List.length_replicate
      have hrow : ∀ e, e < q → (gA q m c 0).getD e [] = List.replicate m 0 := fun e he => by
        rw [gA, List.getD_eq_getElem?_getD, List.getElem?_replicate, if_pos he]; rfl
      refine ⟨?_, fun e he => ?_, fun e he => ?_, ?_⟩
      · rw [hg, hlen, Nat.sub_self, List.replicate_zero, List.append_nil]
      · rw [hlen] at he; rw [hrow e he]; exact hr e he
      · rw [hlen] at he; rw [hrow e he]; exact List.length_replicate
      · rw [hlen]; omega
    clear hg hr hkq hk
    obtain ⟨cid, coff, hcs, hcid, hcc⟩ := hc.open
    have emq : (m : Int).tmod (q : Int) = ((m % q : Nat) : Int) := tmod_nat ..
    have hmp : P ≤ mid ∨ mid < P := by omega
    simp (disch := first | omega | (simp only [Qn] <;> omega)) only [go_sem, emq]
    by_cases hz : m % q = 0
    · rw [iteW_pos (by omega)]
      simp (disch := first | omega | (simp only [Qn] <;> omega)) only [go_sem, hc.lens]
      refine Wp_loop (fun k' vars h3 => ∃ (k : Nat), (∃ g : Nat → V, vars = [.ptr tid 0, .int .i64 (n : Int), .int .i64 (q : Int), vc, .nils, .bool false, .int .i64 (m : Int), .sl P 0 q (.kn q), g 8, g 9, g 10, g 11, g 12, g 13, g 14, g 15, g 16, g 17, g 18, g 19, g 20, g 21, g 22, g 23, vc, .int .i64 (c.length : Int), .int .i64 (k : Int), g 27, g 28, g 29, g 30, g 31, g 32, g 33, g 34, g 35, g 36, g 37, g 38, g 39, g 40, g 41, g 42, g 43, g 44, g 45, g 46, g 47, g 48]) ∧ k ≤ c.length ∧
        Grid h3 P m (gA q m c k) ∧ Fr h h3 ∧ k' = c.length - k) c.length
        ⟨0, ex_junk rfl, Nat.zero_le _, hgrid, hf2, rfl⟩ ?_
      rintro k' vars h3 ⟨k, ⟨g, rfl⟩, hk, hg3, hf3, rfl⟩
      have hsh := gA_shape q m c k
      simp (disch := first | omega | (simp only [Qn] <;> omega)) only [go_sem]
      by_cases hkc : (k : Int) < (c.length : Int)
      · rw [decide_eq_true hkc]
        have hcc3 := cells_fr hf3 hcid hcc
        have h5 : k % q < q := Nat.mod_lt _ (by omega)
        have h6 : k / q < m := by
          have : k < m * q := by rw [← hm, hdvd]; omega
          exact (Nat.div_lt_iff_lt_mul (by omega)).2 this
        have e2 : (k : Int).tmod (q : Int) = ((k % q : Nat) : Int) := tmod_nat ..
        have e3 : (k : Int).tdiv (q : Int) = ((k / q : Nat) : Int) := rfl
        have hstep : gA q m c (k + 1) = (gA q m c k).set (k % q) (((gA q m c k).getD (k % q) []).set (k / q) (c.getD k 0)) := rfl
        generalize k % q = r at h5 e2 hstep
        generalize k / q = u at h6 e3 hstep
        have hrl := hg3.rl r (by omega)
        simp (disch := first | omega | (simp only [Qn] <;> omega)) only [go_sem, hcs.ixa, hcc3, Int.toNat_natCast, e2, e3, hg3.cell (e := r) (by omega), hg3.rg r (by omega)]
        rw [show (k : Int) + 1 = ((k + 1 : Nat) : Int) from by omega]
        refine ⟨c.length - (k + 1), by omega, k + 1, ex_junk rfl, by omega, ?_, (hf3.bump (by omega)).set (by omega) _, rfl⟩
        rw [hstep]
        exact (hg3.fr ((Fr.refl h3).bump (by omega))).set (by omega) _
      · rw [decide_eq_false hkc]
        have : c.length = k := by omega
        subst this
        clear hkc hk
        simp (disch := first | omega | (simp only [Qn] <;> omega)) only [go_sem]
        have esl : slcV 1 (.sl P 0 q (.kn q)) (some (.int .i64 1)) none none = some (.sl P 1 (q - 1) (.kn (q - 1))) := by
          simp only [slcV, bndV]
          rw [if_pos (by omega)]
          simp only
          rw [if_pos (by omega), if_neg (by omega)]
          rfl
        simp (disch := first | omega | (simp only [Qn] <;> omega)) only [go_sem, esl]
        refine Wp_loop (fun k' vars h4 => ∃ (k : Nat), (∃ g : Nat → V, vars = [.ptr tid 0, .int .i64 (n : Int), .int .i64 (q : Int), vc, .nils, .bool false, .int .i64 (m : Int), .sl P 0 q (.kn q), g 8, g 9, g 10, g 11, g 12, g 13, g 14, g 15, g 16, g 17, g 18, g 19, g 20, g 21, g 22, g 23, g 24, g 25, g 26, g 27, .sl P 1 (q - 1) (.kn (q - 1)), .int .i64 ((q - 1 : Nat) : Int), .int .i64 (k : Int), g 31, g 32, g 33, g 34, g 35, g 36, g 37, g 38, g 39, g 40, g 41, g 42, g 43, g 44, g 45, g 46, g 47, g 48]) ∧ k + 1 ≤ q ∧
          Grid h4 P m (gA q m c c.length) ∧ Fr h h4 ∧ (∀ e, 1 ≤ e → e ≤ k → ((gA q m c c.length).getD e []).any nz = false) ∧ k' = q - k) q
          ⟨0, ex_junk rfl, by omega, hg3, hf3, fun e h1 h2 => by omega, rfl⟩ ?_
        rintro k' vars h4 ⟨k, ⟨g, rfl⟩, hk, hg4, hf4, hall, rfl⟩
        simp (disch := first | omega | (simp only [Qn] <;> omega)) only [go_sem]
        refine iteW_dec (fun hlt => ?_) (fun hge => ?_)
        · have hk1 : k + 1 < (gA q m c c.length).length := by rw [hsh.1]; omega
          simp (disch := first | omega | (simp only [Qn] <;> omega)) only [go_sem, Int.toNat_natCast, Nat.add_comm 1 k, hg4.cell hk1]
          refine (contains_ok _ _ _ _ _ (hg4.si hk1) (by rw [hg4.rl _ hk1]; omega) test_nz).mono ?_
          rintro v1 h1' ⟨rfl, rfl⟩
          simp (disch := first | omega | (simp only [Qn] <;> omega)) only [go_sem]
          refine iteW_bool (fun hp => ?_) (fun hp => ?_)
          · simp (disch := first | omega | (simp only [Qn] <;> omega)) only [go_sem]
            have hlow : lowerF n q c = none := by
              simp only [lowerF, hm]
              rw [if_pos hz, lowA, if_pos]
              rw [List.any_eq_true]
              refine ⟨(gA q m c c.length).getD (k + 1) [], ?_, hp⟩
              rw [List.getD_eq_getElem?_getD, List.getElem?_eq_getElem hk1, Option.getD_some]
              rw [List.mem_iff_getElem]
              exact ⟨k, by rw [List.length_drop]; omega, by rw [List.getElem_drop]; congr 1; omega⟩
            rw [hlow]
            exact ⟨ht.fr hf4, hf4.toM mid, _, _, rfl, rfl⟩
          · simp (disch := first | omega | (simp only [Qn] <;> omega)) only [go_sem]
            rw [show (k : Int) + 1 = ((k + 1 : Nat) : Int) from by omega]
            refine ⟨q - (k + 1), by omega, k + 1, ex_junk rfl, by omega, hg4, hf4, fun e h1 h2 => ?_, rfl⟩
            by_cases hek : e = k + 1
            · rw [hek]; exact hp
            · exact hall e h1 (by omega)
        · have h0 : 0 < (gA q m c c.length).length := by rw [hsh.1]; omega
          simp (disch := first | omega | (simp only [Qn] <;> omega)) only [go_sem, hg4.cell h0]
          refine (reduced_ok tid mid b m _ _ h4 hm1 (by omega) (ht.fr hf4) (hg4.si h0) (by rw [hg4.rl _ h0]; omega)).mono ?_
          rintro v5 h5 ⟨ht5, ho5, hf5, hav5⟩
          simp (disch := first | omega | (simp only [Qn] <;> omega)) only [go_sem]
          have hlow : lowerF n q c = some (redF m ((gA q m c c.length).getD 0 [])) := by
            simp only [lowerF, hm]
            rw [if_pos hz, lowA, if_neg]
            rw [List.any_eq_true]
            rintro ⟨x, hx, hx2⟩
            rw [List.mem_iff_getElem] at hx
            obtain ⟨i, hi, rfl⟩ := hx
            rw [List.length_drop, hsh.1] at hi
            rw [List.getElem_drop] at hx2
            have := hall (1 + i) (by omega) (by omega)
            rw [List.getD_eq_getElem?_getD, List.getElem?_eq_getElem (by rw [hsh.1]; omega), Option.getD_some, hx2] at this
            cases this
          rw [hlow]
          refine ⟨ht5, (hf4.toM mid).trans hf5, _, _, rfl, rfl, ho5.sv, fun id off n c e => ?_⟩
          have hnx4 := hf4.next
          rcases ho5 with ⟨h6, _⟩ | ⟨id', _, _, _, h6, _, _, h7, _⟩
          · rw [h6] at e; cases e
          · rw [h6] at e; cases e; omega
    · rw [iteW_neg (by omega)]
      obtain ⟨x0, hx0⟩ := hia (by rw [hm]; exact hz)
      obtain ⟨y0, hy0⟩ := hib (by rw [hm]; exact hz)
      rw [hm] at hx0 hy0
      simp (disch := first | omega | (simp only [Qn] <;> omega)) only [go_sem]
      refine (inverse_ok q m x0 h2 (by omega) hm1 (by omega) hx0).mono ?_
      rintro v1 h21 ⟨rfl, hf21⟩
      simp (disch := first | omega | (simp only [Qn] <;> omega)) only [go_sem]
      refine (inverse_ok m q y0 h21 (by omega) (by omega) (by omega) hy0).mono ?_
      rintro v1 h22 ⟨rfl, hf22⟩
      have ha0 : invF q m ≤ m := by rw [invF, hx0]; exact Nat.le_of_lt_succ (first_some hx0).1
      have hb0 : invF m q ≤ q := by rw [invF, hy0]; exact Nat.le_of_lt_succ (first_some hy0).1
      obtain ⟨A, hA⟩ : ∃ A, invF q m = A := ⟨_, rfl⟩
      obtain ⟨B, hB⟩ : ∃ B, invF m q = B := ⟨_, rfl⟩
      rw [hA] at ha0
      rw [hB] at hb0
      simp (disch := first | omega | (simp only [Qn] <;> omega)) only [go_sem, hc.lens, hA, hB]
      refine Wp_loop (fun k' vars h3 => ∃ (k : Nat), (∃ g : Nat → V, vars = [.ptr tid 0, .int .i64 (n : Int), .int .i64 (q : Int), vc, .nils, .bool false, .int .i64 (m : Int), .sl P 0 q (.kn q), g 8, g 9, g 10, g 11, .int .i64 (A : Int), .int .i64 (B : Int), g 14, g 15, g 16, g 17, g 18, g 19, g 20, g 21, g 22, g 23, g 24, g 25, g 26, g 27, g 28, g 29, g 30, g 31, g 32, vc, .int .i64 (c.length : Int), .int .i64 (k : Int), g 36, g 37, g 38, g 39, g 40, g 41, g 42, g 43, g 44, g 45, g 46, g 47, g 48]) ∧ k ≤ c.length ∧
        Grid h3 P m (gB A B q m c k) ∧ Fr h h3 ∧ k' = c.length - k) c.length
        ⟨0, ex_junk rfl, Nat.zero_le _, hgrid.fr (hf21.trans hf22), hf2.trans (hf21.trans hf22), rfl⟩ ?_
      rintro k' vars h3 ⟨k, ⟨g, rfl⟩, hk, hg3, hf3, rfl⟩
      have hsh := gB_shape A B q m c k
      simp (disch := first | omega | (simp only [Qn] <;> omega)) only [go_sem]
      by_cases hkc : (k : Int) < (c.length : Int)
      · rw [decide_eq_true hkc]
        have hcc3 := cells_fr hf3 hcid hcc
        have h5 : B * k % q < q := Nat.mod_lt _ (by omega)
        have h6 : A * k % m < m := Nat.mod_lt _ (by omega)
        have hBk : B * k ≤ 120 * 120 := Nat.mul_le_mul (by omega) (by omega)
        have hAk : A * k ≤ 120 * 120 := Nat.mul_le_mul (by omega) (by omega)
        have e4 : (B : Int) * (k : Int) = ((B * k : Nat) : Int) := (Int.natCast_mul ..).symm
        have e5 : (A : Int) * (k : Int) = ((A * k : Nat) : Int) := (Int.natCast_mul ..).symm
        have e2 : ((B * k : Nat) : Int).tmod (q : Int) = ((B * k % q : Nat) : Int) := tmod_nat ..
        have e3 : ((A * k : Nat) : Int).tmod (m : Int) = ((A * k % m : Nat) : Int) := tmod_nat ..
        have hstep : gB A B q m c (k + 1) = (gB A B q m c k).set (B * k % q) (((gB A B q m c k).getD (B * k % q) []).set (A * k % m) (W (((gB A B q m c k).getD (B * k % q) []).getD (A * k % m) 0 + c.getD k 0))) := rfl
        generalize B * k % q = r at h5 e2 hstep
        generalize A * k % m = u at h6 e3 hstep
        generalize B * k = Bk at e2 e4 hBk
        generalize A * k = Ak at e3 e5 hAk
        have hrl := hg3.rl r (by omega)
        simp (disch := first | omega | (simp only [Qn] <;> omega)) only [go_sem, hcs.ixa, hcc3, Int.toNat_natCast, e2, e3, e4, e5, hg3.cell (e := r) (by omega), hg3.at (e := r) (i := u) (by omega) h6, hg3.rg r (by omega)]
        rw [show (k : Int) + 1 = ((k + 1 : Nat) : Int) from by omega]
        refine ⟨c.length - (k + 1), by omega, k + 1, ex_junk rfl, by omega, ?_, (hf3.bump (by omega)).set (by omega) _, rfl⟩
        rw [hstep]
        exact (hg3.fr ((Fr.refl h3).bump (by omega))).set (by omega) _
      · rw [decide_eq_false hkc]
        have : c.length = k := by omega
        subst this
        clear hkc hk
        simp (disch := first | omega | (simp only [Qn] <;> omega)) only [go_sem]
        obtain ⟨rows, hrows⟩ : ∃ rows, gB A B q m c c.length = rows := ⟨_, rfl⟩
        rw [hrows] at hg3 hsh
        refine Wp_loop (fun k' vars h4 => ∃ (k : Nat) (ws : List V), (∃ g : Nat → V, vars = [.ptr tid 0, .int .i64 (n : Int), .int .i64 (q : Int), vc, .nils, .bool false, .int .i64 (m : Int), .sl P 0 q (.kn q), g 8, g 9, g 10, g 11, g 12, g 13, g 14, g 15, g 16, g 17, g 18, g 19, g 20, g 21, g 22, g 23, g 24, g 25, g 26, g 27, g 28, g 29, g 30, g 31, g 32, g 33, g 34, g 35, g 36, .int .i64 (q : Int), .int .i64 (k : Int), g 39, g 40, g 41, g 42, g 43, g 44, g 45, g 46, g 47, g 48]) ∧ k ≤ q ∧
          ws.length = q ∧ h4.get P = some (.cells false ws) ∧ (∀ e, k ≤ e → e < q → ws.getD e .undef = .sl (P + 1 + e) 0 m (.kn m) ∧ h4.get (P + 1 + e) = some (.cells false (ints (rows.getD e [])))) ∧
          (∀ e, e < k → Own h4 (ws.getD e .undef) 1 (ints (redF m (rows.getD e []))) (P + q + 1)) ∧ (∀ e, 1 ≤ e → e < k → Dis (ws.getD 0 .undef) (ws.getD e .undef)) ∧ (0 < k → ∀ id off n c, ws.getD 0 .undef = .sl id off n c → Avoid h4 mid id) ∧ Tb h4 tid mid b ∧ FrM mid h h4 ∧ P + q < h4.next ∧ k' = q - k) q
          ⟨0, _, ex_junk rfl, Nat.zero_le _, ?_, hg3.pg, fun e _ he => ⟨?_, hg3.rg e (by omega)⟩, fun e he => by omega, fun e _ he => by omega, fun h => by omega, ht.fr hf3, hf3.toM mid, by have := hg3.lt; omega, rfl⟩ ?_
        · rw [List.length_map, List.length_range, hsh.1]
        · rw [List.getD_eq_getElem?_getD, List.getElem?_map, List.getElem?_range (by omega)]; rfl
        clear hg3 hf3
        rintro k' vars h4 ⟨k, ws, ⟨g, rfl⟩, hk, hwl, hwg, hrest, hown, hdis, hav, ht4, hf4, hn4, rfl⟩
        simp (disch := first | omega | (simp only [Qn] <;> omega)) only [go_sem]
        by_cases hkq : (k : Int) < (q : Int)
        · rw [decide_eq_true hkq]
          obtain ⟨hw1, hw2⟩ := hrest k (Nat.le_refl _) (by omega)
          have hcell : h4.cell P k = some (.sl (P + 1 + k) 0 m (.kn m)) := by
            rw [H.cell_of hwg, List.getElem?_eq_getElem (by omega), ← hw1, List.getD_eq_getElem?_getD, List.getElem?_eq_getElem (by omega)]; rfl
          have hrk := hsh.2 k (by omega)
          have hsi : SI h4 (.sl (P + 1 + k) 0 m (.kn m)) (rows.getD k []) := by
            have := SI.own (h := h4) (id := P + 1 + k) (by omega) hw2 (.kn m)
            rw [hrk] at this; exact this
          simp (disch := first | omega | (simp only [Qn] <;> omega)) only [go_sem, hcell]
          refine (reduced_ok tid mid b m _ _ h4 hm1 (by omega) ht4 hsi (by omega)).mono ?_
          rintro v5 h5 ⟨ht5, ho5, hf5, hav5⟩
          have hP5 : h5.get P = some (.cells false ws) := by
            rw [hf5.get P (by omega) (fun e => by obtain ⟨es, hes⟩ := ht4.isMap; rw [← e, hwg] at hes; cases hes)]; exact hwg
          have hnm : ∀ id vs, h4.get id = some (.cells false vs) → id ≠ mid := fun id vs hg e => by
            obtain ⟨es, hes⟩ := ht4.isMap
            rw [e, hes] at hg; cases hg
          simp (disch := first | omega | (simp only [Qn] <;> omega)) only [go_sem, ho5.sv.st1, hP5, putO_one]
          rw [show (k : Int) + 1 = ((k + 1 : Nat) : Int) from by omega]
          have hPlt : P < P + q + 1 := by omega
          refine ⟨q - (k + 1), by omega, k + 1, ws.set k v5, ex_junk rfl, by omega, by rw [List.length_set, hwl], rfl, fun e he1 he2 => ?_, fun e he => ?_, fun e he1 he2 => ?_, ?_, ?_, ?_, by have := hf5.next; omega, rfl⟩
          · obtain ⟨r1, r2⟩ := hrest e (by omega) he2
            refine ⟨by rw [getD_set, if_neg (by omega)]; exact r1, ?_⟩
            rw [hf5.get _ (by omega) (hnm _ _ r2)]; exact r2
          · rw [getD_set]
            by_cases hke : k = e
            · subst hke
              rw [if_pos rfl, if_pos (by omega)]
              exact (ho5.le (by omega)).set hPlt _
            · rw [if_neg hke]
              exact ((hown e (by omega)).monoM ht4.isMap hf5).set hPlt _
          · have e0 : (ws.set k v5).getD 0 .undef = ws.getD 0 .undef := by rw [getD_set, if_neg (by omega)]
            rw [e0, getD_set]
            by_cases hke : k = e
            · subst hke
              rw [if_pos rfl, if_pos (by omega)]
              exact (hown 0 (by omega)).dis ho5
            · rw [if_neg hke]
              exact hdis e he1 (by omega)
          · intro _ id off n c e
            have hPm : P ≠ mid := hnm P ws hwg
            refine Avoid.fr ?_ (H.get_set_ne _ (Ne.symm hPm) _)
            by_cases hk0 : k = 0
            · subst hk0
              rw [getD_set, if_pos rfl, if_pos (by omega)] at e
              exact hav5 id off n c e
            · rw [getD_set, if_neg hk0] at e
              have hid : id < h4.next := by
                have := hown 0 (by omega)
                rw [e] at this
                exact SV.ne_of this.sv
              exact hf5.av ht4.mlt id hid (hav (by omega) id off n c e)
          · obtain ⟨es, hes⟩ := ht5.isMap
            have hPm : P ≠ mid := hnm P ws hwg
            have hPt : P ≠ tid := by have := ht.tlt; omega
            obtain ⟨es, k1, k2, k3⟩ := ht5.es
            refine ⟨by rw [H.cell_set_ne _ (Ne.symm hPt)]; exact ht5.tp, ht5.ne, ht5.tlt, ht5.mlt, ht5.tb, ht5.mb, es, by rw [H.get_set_ne _ (Ne.symm hPm)]; exact k1, k2, fun n v hv => ?_⟩
            refine ⟨(k3 n v hv).1.other (k3 n v hv).2 hP5 (fun i w hw => ?_) _, (k3 n v hv).2⟩
            have hi := (List.getElem?_eq_some_iff.1 hw).1
            have hw' : ws.getD i .undef = w := by rw [List.getD_eq_getElem?_getD, hw]; rfl
            by_cases hik : i < k
            · rw [← hw']; exact (hown i hik).sv.what.2.2
            · rw [← hw', (hrest i (by omega) (by omega)).1]
              intro k n h; cases h
          · exact (hf4.trans hf5).set (by omega) _
        · rw [decide_eq_false hkq]
          have : q = k := by omega
          subst this
          clear hkq hk hrest hx0 hy0 hcc hcs hcid
          simp (disch := first | omega | (simp only [Qn] <;> omega)) only [go_sem]
          obtain ⟨reds, hreds⟩ : ∃ reds, rows.map (redF m) = reds := ⟨_, rfl⟩
          have hrl : reds.length = q := by rw [← hreds, List.length_map, hsh.1]
          have hlen : ∀ e, e < q → reds.getD e [] = redF m (rows.getD e []) := fun e he => by
            rw [← hreds, List.getD_eq_getElem?_getD, List.getElem?_map, List.getD_eq_getElem?_getD, List.getElem?_eq_getElem (by rw [hsh.1]; exact he)]; rfl
          have hown' : ∀ e, e < q → Own h4 (ws.getD e .undef) 1 (ints (reds.getD e [])) (P + q + 1) := fun e he => by rw [hlen e he]; exact hown e he
          have hpl := phi_len hm1 (show m ≤ 120 by omega)
          have hL : ∀ e, e < q → (reds.getD e []).length = (phiF m).length - 1 := fun e he => by rw [hlen e he, redF_len]
          have hlowB : lowerF n q c = lowB reds := by
            simp only [lowerF, hm]
            rw [if_neg hz, hA, hB, hrows, hreds]
          rw [hlowB]
          clear hlowB hown hlen hdvd hia hib
          have hcell : ∀ e, e < q → h4.cell P e = some (ws.getD e .undef) := fun e he => by
            rw [H.cell_of hwg, List.getElem?_eq_getElem (by omega), List.getD_eq_getElem?_getD, List.getElem?_eq_getElem (by omega)]; rfl
          have esl : slcV 1 (.sl P 0 q (.kn q)) (some (.int .i64 1)) none none = some (.sl P 1 (q - 1) (.kn (q - 1))) := by
            simp only [slcV, bndV]
            rw [if_pos (by omega)]
            simp only
            rw [if_pos (by omega), if_neg (by omega)]
            rfl
          simp (disch := first | omega | (simp only [Qn] <;> omega)) only [go_sem, esl]
          refine Wp_loop (fun k' vars h5 => ∃ (k : Nat), (∃ g : Nat → V, vars = [.ptr tid 0, .int .i64 (n : Int), .int .i64 (q : Int), vc, .nils, .bool false, .int .i64 (m : Int), .sl P 0 q (.kn q), g 8, g 9, g 10, g 11, g 12, g 13, g 14, g 15, g 16, g 17, g 18, g 19, g 20, g 21, g 22, g 23, g 24, g 25, g 26, g 27, g 28, g 29, g 30, g 31, g 32, g 33, g 34, g 35, g 36, g 37, g 38, g 39, .sl P 1 (q - 1) (.kn (q - 1)), .int .i64 ((q - 1 : Nat) : Int), .int .i64 (k : Int), g 43, g 44, g 45, g 46, g 47, g 48]) ∧ k + 1 ≤ q ∧
            Fr h4 h5 ∧ (∀ e, 1 ≤ e → e ≤ k → reds.getD e [] = reds.getD 1 []) ∧ k' = q - k) q
            ⟨0, ex_junk rfl, by omega, Fr.refl h4, fun e h1 h2 => by omega, rfl⟩ ?_
          rintro k' vars h5 ⟨k, ⟨g, rfl⟩, hk, hf5, hall, rfl⟩
          have hcell5 : ∀ e, e < q → h5.cell P e = some (ws.getD e .undef) := fun e he => by rw [hf5.cell (by omega)]; exact hcell e he
          simp (disch := first | omega | (simp only [Qn] <;> omega)) only [go_sem]
          refine iteW_dec (fun hlt => ?_) (fun hge => ?_)
          · simp (disch := first | omega | (simp only [Qn] <;> omega)) only [go_sem, Nat.add_comm 1 k, hcell5]
            refine (equal_ok _ _ _ _ h5 ((hown' (k + 1) (by omega)).fr hf5).sv ((hown' 1 (by omega)).fr hf5).sv (by rw [hL _ (by omega)]; omega) (by rw [hL _ (by omega)]; omega)).mono ?_
            rintro v1 h6 ⟨rfl, hf6⟩
            simp (disch := first | omega | (simp only [Qn] <;> omega)) only [go_sem]
            refine iteW_dec (fun heq => ?_) (fun hne => ?_)
            · simp (disch := first | omega | (simp only [Qn] <;> omega)) only [go_sem]
              rw [show (k : Int) + 1 = ((k + 1 : Nat) : Int) from by omega]
              refine ⟨q - (k + 1), by omega, k + 1, ex_junk rfl, by omega, hf5.trans hf6, fun e h1 h2 => ?_, rfl⟩
              by_cases hek : e = k + 1
              · rw [hek]; exact heq
              · exact hall e h1 (by omega)
            · simp (disch := first | omega | (simp only [Qn] <;> omega)) only [go_sem]
              have hnone : lowB reds = none := by
                rw [lowB, if_neg]
                rw [List.all_eq_true]
                intro hx
                have := hx (reds.getD (k + 1) []) (by
                  rw [List.mem_iff_getElem]
                  exact ⟨k, by rw [List.length_drop]; omega, by rw [List.getElem_drop, List.getD_eq_getElem?_getD, List.getElem?_eq_getElem (by omega), Option.getD_some]; congr 1; omega⟩)
                exact hne (of_decide_eq_true this)
              rw [hnone]
              exact ⟨ht4.fr (hf5.trans hf6), hf4.trans ((hf5.trans hf6).toM mid), _, _, rfl, rfl⟩
          · have hsome : lowB reds = some (subK (reds.getD 0 []) (reds.getD 1 []) (reds.getD 1 []).length) := by
              rw [lowB, if_pos]
              rw [List.all_eq_true]
              intro x hx
              rw [List.mem_iff_getElem] at hx
              obtain ⟨i, hi, rfl⟩ := hx
              rw [List.length_drop] at hi
              rw [List.getElem_drop]
              have := hall (1 + i) (by omega) (by omega)
              rw [List.getD_eq_getElem?_getD, List.getElem?_eq_getElem (by omega), Option.getD_some] at this
              rw [this]
              exact decide_eq_true rfl
            rw [hsome]
            have ho0 := (hown' 0 (by omega)).fr hf5
            have ho1 := (hown' 1 (by omega)).fr hf5
            have hd01 := hdis 1 (Nat.le_refl _) (by omega)
            have hL0 := hL 0 (by omega)
            have hL1 := hL 1 (by omega)
            simp (disch := first | omega | (simp only [Qn] <;> omega)) only [go_sem, hcell5]
            have hl1 : lensV (ws.getD 1 .undef) = some (.int .i64 ((reds.getD 1 []).length : Int)) := SI.lens (h := h5) ho1.sv
            have hav0 := hav (by omega)
            simp (disch := first | omega | (simp only [Qn] <;> omega)) only [go_sem, hl1]
            obtain ⟨id1, off1, hs1, hid1, hc1⟩ := SI.open (h := h5) ho1.sv
            generalize reds.getD 0 [] = R0 at *
            generalize reds.getD 1 [] = R1 at *
            rcases ho0 with ⟨_, h0⟩ | ⟨id0, n0, cap0, rest0, hw0, hn0, hcap0, hid0, hid0', hg0⟩
            · have : (ints R0).length = 0 := by rw [h0]; rfl
              rw [ints_length] at this; omega
            rw [ints_length, Nat.mul_one] at hn0
            have hne01 : id0 ≠ id1 := by
              rcases ho1 with ⟨_, h0⟩ | ⟨id1', n1, cap1, rest1, hw1, hn1', _⟩
              · have : (ints R1).length = 0 := by rw [h0]; rfl
                rw [ints_length] at this; omega
              · have h1 := hd01 _ _ _ _ hw0 _ _ _ _ hw1
                have h2 := hs1.ixa .i64 0 (by omega) (by omega)
                rw [hw1, ixaV_sl (by omega) (by rw [ints_length] at hn1'; omega)] at h2
                simp only [Option.some.injEq, V.ptr.injEq] at h2
                omega
            have havx := (hav0 id0 0 n0 cap0 hw0).fr (hf5.get mid ht4.mlt)
            clear hcell5
            have hpc : ∀ e, e < q → h5.cell P e = some (ws.getD e .undef) := fun e he => by rw [hf5.cell (by omega)]; exact hcell e he
            have hid1' := hid1 (by omega)
            refine Wp_loop (fun k' vars h6 => ∃ (k : Nat), (∃ g : Nat → V, vars = [.ptr tid 0, .int .i64 (n : Int), .int .i64 (q : Int), vc, .nils, .bool false, .int .i64 (m : Int), .sl P 0 q (.kn q), g 8, g 9, g 10, g 11, g 12, g 13, g 14, g 15, g 16, g 17, g 18, g 19, g 20, g 21, g 22, g 23, g 24, g 25, g 26, g 27, g 28, g 29, g 30, g 31, g 32, g 33, g 34, g 35, g 36, g 37, g 38, g 39, g 40, g 41, g 42, g 43, g 44, ws.getD 1 .undef, .int .i64 (R1.length : Int), .int .i64 (k : Int), g 48]) ∧ k ≤ R1.length ∧
              h6.get id0 = some (.cells false (ints (subK R0 R1 k) ++ rest0)) ∧ (∀ x, x ≠ id0 → h6.get x = h5.get x) ∧ h6.next = h5.next ∧ k' = R1.length - k) R1.length
              ⟨0, ex_junk rfl, Nat.zero_le _, hg0, fun _ _ => rfl, rfl, rfl⟩ ?_
            rintro k' vars h6 ⟨k2, ⟨g2, rfl⟩, hk2, hg6, hoth, hn6, rfl⟩
            have hc6 : ∀ x off, x ≠ id0 → h6.cell x off = h5.cell x off := fun x off hx => by unfold H.cell; rw [hoth x hx]
            have hsl := subK_len R0 R1 k2
            simp (disch := first | omega | (simp only [Qn] <;> omega)) only [go_sem]
            by_cases hkL : (k2 : Int) < (R1.length : Int)
            · rw [decide_eq_true hkL]
              have e0 : h6.cell P 0 = some (.sl id0 0 n0 cap0) := by rw [hc6 P 0 (by omega), hpc 0 (by omega), hw0]
              have e1' : h6.cell id1 (off1 + k2) = some (.int .i64 (R1.getD k2 0)) := by rw [hc6 _ _ (Ne.symm hne01)]; exact hc1 k2 (by omega)
              have e2 : h6.cell id0 k2 = some (.int .i64 ((subK R0 R1 k2).getD k2 0)) := by
                rw [H.cell_of hg6, List.getElem?_append_left (by rw [ints_length]; omega), ints_getD (by omega)]
              have hpl2 : k2 < (ints (subK R0 R1 k2) ++ rest0).length := by rw [List.length_append, ints_length]; omega
              simp (disch := first | omega | (simp only [Qn] <;> omega)) only [go_sem, hs1.ixa, e0, e1', e2, hg6]
              rw [show (k2 : Int) + 1 = ((k2 + 1 : Nat) : Int) from by omega]
              refine ⟨R1.length - (k2 + 1), by omega, k2 + 1, ex_junk rfl, by omega, ?_, fun x hx => ?_, hn6, rfl⟩
              · rw [List.set_append_left _ _ (by rw [ints_length]; omega), ints_set]; rfl
              · rw [H.get_set_ne _ hx]; exact hoth x hx
            · rw [decide_eq_false hkL]
              have : R1.length = k2 := by omega
              subst this
              have e0 : h6.cell P 0 = some (.sl id0 0 n0 cap0) := by rw [hc6 P 0 (by omega), hpc 0 (by omega), hw0]
              simp (disch := first | omega | (simp only [Qn] <;> omega)) only [go_sem, e0]
              have hid0m : id0 ≠ mid := by have := ht.mlt; omega
              have hid0t : id0 ≠ tid := by have := ht.tlt; omega
              have hset : ∀ x, h6.get x = (h5.set id0 (some (.cells false (ints (subK R0 R1 R1.length) ++ rest0)))).get x := fun x => by
                by_cases hx : x = id0
                · rw [hx, hg6, H.get_set_same]
                · rw [hoth x hx, H.get_set_ne _ hx]
              have hF6 : Fr (h5.set id0 (some (.cells false (ints (subK R0 R1 R1.length) ++ rest0)))) h6 := ⟨by rw [H.next_set, hn6]; exact Nat.le_refl _, fun x _ => hset x⟩
              refine ⟨((ht4.fr hf5).set hid0t hid0m havx _).fr hF6, ((hf4.trans (hf5.toM mid)).set (by omega) _).trans (hF6.toM mid), _, _, rfl, rfl, ?_, fun id off n c e => by cases e; omega⟩
              refine .inr ⟨id0, 0, n0, cap0, false, _, rfl, by rw [ints_length]; omega, by omega, hg6, by rw [List.length_append, ints_length]; omega, ?_⟩
              rw [List.drop_zero, Nat.mul_one, show n0 = (ints (subK R0 R1 R1.length)).length by rw [ints_length]; omega, List.take_left]
end Go.Proofs.Ythfabknpogbcaaa
/- Contracts: the primes that divide a number, one after another. -/
namespace Go.Proofs.Ythfabknpogbcaaa
open Go Go.Ay
set_option maxRecDepth 100000

theorem primes_ok (n : Nat) (h : H) : Ev T n_cyclo_primes [.int .i64 (n : Int)] h (fun v h' => v = .fn 80 [] [.ptr h.next 0] ∧ h' = h.new (.cells false [.int .i64 (n : Int)])) := by
  refine Ev_of t_cyclo_primes rfl ?_
  simp (disch := first | omega | (simp only [Qn] <;> omega)) only [go_sem, c_cyclo_primes, initV_eq]

set_option maxHeartbeats 1000000 in
theorem primes1_ok (id nb : Nat) (Iv : List Nat → H → Prop) (Dn : H → Prop)
    (hset : ∀ l h x, Iv l h → Iv l (h.set nb (some (.cells false [.int .i64 x]))))
    (hyld : ∀ q l h, Iv (q :: l) h → Ey T id [.int .i64 (q : Int)] h (fun v h' => h'.get nb = h.get nb ∧ (v = .bool true ∧ Iv l h' ∨ v = .bool false ∧ Dn h')))
    (n : Nat) (hn : 1 ≤ n) (hn2 : n ≤ 120) (h : H) (hg : h.get nb = some (.cells false [.int .i64 (n : Int)])) (hI : Iv (prOf n) h) :
    Ev T n_cyclo_primes_1 [.yl id, .ptr nb 0] h (fun _ h' => Iv [] h' ∨ Dn h') := by
  refine Ev_of t_cyclo_primes_1 rfl ?_
  simp (disch := first | omega | (simp only [Qn] <;> omega)) only [go_sem, c_cyclo_primes_1, initV_eq]
  refine Wp_loop (fun k vars h1 => ∃ (x q : Nat) (l : List Nat), (∃ g : Nat → V, vars = [.yl id, .ptr nb 0, .int .i64 (q : Int), g 3, g 4, g 5, g 6]) ∧ 1 ≤ x ∧ x ≤ 120 ∧ 2 ≤ q ∧ q + k = 127 ∧ pgF k x q = some l ∧ h1.get nb = some (.cells false [.int .i64 (x : Int)]) ∧ Iv l h1) 125
    ⟨n, 2, _, ex_junk rfl, hn, hn2, Nat.le_refl _, rfl, prOf_some hn2, hg, hI⟩ ?_
  rintro k vars h1 ⟨x, q, l, ⟨g, rfl⟩, hx1, hx2, hq, hqk, hpg, hg1, hI1⟩
  obtain ⟨k, rfl⟩ : ∃ k', k = k' + 1 := by
    cases k with
    | zero => cases hpg
    | succ k => exact ⟨k, rfl⟩
  have hc1 : h1.cell nb 0 = some (.int .i64 (x : Int)) := by rw [H.cell_of hg1]; rfl
  simp (disch := first | omega | (simp only [Qn] <;> omega)) only [go_sem, hc1]
  rw [pgF] at hpg
  refine iteW_dec (fun hlt => ?_) (fun hge => ?_)
  · rw [if_pos (by omega)] at hpg
    have em : (x : Int).tmod (q : Int) = ((x % q : Nat) : Int) := tmod_nat ..
    simp (disch := first | omega | (simp only [Qn] <;> omega)) only [go_sem, hc1, em]
    refine iteW_dec (fun hnz => ?_) (fun hz => ?_)
    · rw [if_pos (by omega)] at hpg
      simp (disch := first | omega | (simp only [Qn] <;> omega)) only [go_sem]
      rw [show (q : Int) + 1 = ((q + 1 : Nat) : Int) from by omega]
      exact ⟨k, by omega, x, q + 1, l, ex_junk rfl, hx1, hx2, by omega, by omega, hpg, hg1, hI1⟩
    · rw [if_neg (by omega)] at hpg
      have hz' : x % q = 0 := by omega
      cases hl : pgF k (outF x x q) (q + 1) with
      | none => rw [hl] at hpg; cases hpg
      | some l' =>
        rw [hl] at hpg
        simp only [Option.map_some, Option.some.injEq] at hpg
        subst hpg
        simp (disch := first | omega | (simp only [Qn] <;> omega)) only [go_sem]
        refine Wp_loop (fun k2 vars h2 => ∃ (y : Nat), (∃ g : Nat → V, vars = [.yl id, .ptr nb 0, .int .i64 (q : Int), g 3, g 4, g 5, g 6]) ∧ 1 ≤ y ∧ y ≤ 120 ∧ outF y y q = outF x x q ∧ h2.get nb = some (.cells false [.int .i64 (y : Int)]) ∧ Iv (q :: l') h2 ∧ y = k2) x
          ⟨x, ex_junk rfl, hx1, hx2, rfl, hg1, hI1, rfl⟩ ?_
        rintro k2 vars h2 ⟨y, ⟨g, rfl⟩, hy1, hy2, hout, hg2, hI2, rfl⟩
        have hc2 : h2.cell nb 0 = some (.int .i64 (y : Int)) := by rw [H.cell_of hg2]; rfl
        have em2 : (y : Int).tmod (q : Int) = ((y % q : Nat) : Int) := tmod_nat ..
        simp (disch := first | omega | (simp only [Qn] <;> omega)) only [go_sem, hc2, em2]
        refine iteW_dec (fun hyz => ?_) (fun hynz => ?_)
        · have hyz' : y % q = 0 := by omega
          obtain ⟨s1, s2, s3⟩ := outF_step hq hy1 hyz'
          have ed : (y : Int).tdiv (q : Int) = ((y / q : Nat) : Int) := rfl
          generalize y / q = z at s1 s2 s3 ed
          simp (disch := first | omega | (simp only [Qn] <;> omega)) only [go_sem, hc2, ed, hg2]
          exact ⟨z, s2, z, ex_junk rfl, s1, by omega, s3.trans hout, rfl, hset _ _ _ hI2, rfl⟩
        · have hyz' : y % q ≠ 0 := by omega
          have hy3 : y = outF x x q := by rw [← hout, outF_stop hy1 hyz']
          simp (disch := first | omega | (simp only [Qn] <;> omega)) only [go_sem]
          refine (hyld q l' h2 hI2).mono ?_
          rintro v3 h3 ⟨hg3, ⟨rfl, hI3⟩ | ⟨rfl, hD3⟩⟩
          · simp (disch := first | omega | (simp only [Qn] <;> omega)) only [go_sem]
            rw [show (q : Int) + 1 = ((q + 1 : Nat) : Int) from by omega]
            exact ⟨k, by omega, y, q + 1, l', ex_junk rfl, hy1, hy2, by omega, by omega, by rw [hy3]; exact hl, by rw [hg3, hg2], hI3⟩
          · simp (disch := first | omega | (simp only [Qn] <;> omega)) only [go_sem]
            exact .inr hD3
  · rw [if_neg (by omega)] at hpg
    cases hpg
    simp (disch := first | omega | (simp only [Qn] <;> omega)) only [go_sem]
    exact .inl hI1
end Go.Proofs.Ythfabknpogbcaaa
