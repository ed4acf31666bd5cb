/- What the functions of layer 6 compute, as plain functions of lists. -/
import Derived.Test.YthfabknpogbcaaaAy26
namespace Go.Proofs.Ythfabknpogbcaaa
open Go Go.Ay
noncomputable section
/-! division -/
abbrev W (x : Int) : Int := IntKind.i64.wrap x
def subAt (x : Int) : Nat → List Int → List Int → List Int
  | _, [], r => r
  | i, y :: b, r => subAt x (i + 1) b (r.set i (W (r.getD i 0 - W (x * y))))
def divGo (d : Nat) (b : List Int) : Nat → List Int → List Int → List Int × List Int
  | 0, q, r => (q, r)
  | n + 1, q, r => divGo d b n (q.set n (r.getD (n + d) 0)) (subAt (r.getD (n + d) 0) n b r)
def divS (a b : List Int) : List Int × List Int :=
  let s := divGo (b.length - 1) b (a.length - (b.length - 1)) (List.replicate (a.length - (b.length - 1)) 0) a
  (s.1, s.2.take (min (b.length - 1) a.length))
/-! the same, quicker -/
def Wq (n : Int) : Int := cond (inI64 n) n (IntKind.i64.wrap n)
theorem Wq_eq (n : Int) : Wq n = W n := wrapX_eq .i64 n
def zipS (x : Int) : List Int → List Int → List Int
  | [], r => r
  | _ :: _, [] => []
  | y :: b, z :: r => Wq (z - Wq (x * y)) :: zipS x b r
def divR (b : List Int) : Nat → List Int → List Int × List Int
  | 0, a => ([], a)
  | _ + 1, [] => ([], [])
  | n + 1, x :: a => let p := divR b n (zipS x b a); (x :: p.1, p.2)
def divF (a b : List Int) : List Int × List Int :=
  let p := divR (b.take (b.length - 1)).reverse (a.length - (b.length - 1)) a.reverse
  (p.1.reverse, p.2.reverse)
theorem subAt_len (x : Int) : ∀ (b : List Int) (i : Nat) (r : List Int), (subAt x i b r).length = r.length
  | [], _, _ => rfl
  | y :: b, i, r => by rw [subAt, subAt_len x b]; simp
theorem subAt_at (x : Int) : ∀ (b : List Int) (i : Nat) (r : List Int) (j : Nat), j < r.length → (subAt x i b r).getD j 0 = if i ≤ j ∧ j < i + b.length then W (r.getD j 0 - W (x * b.getD (j - i) 0)) else r.getD j 0
  | [], i, r, j, hj => by rw [if_neg (by simp)]; rfl
  | y :: b, i, r, j, hj => by
    rw [subAt, subAt_at x b (i + 1) _ j (by rw [List.length_set]; exact hj), getD_set]
    by_cases h1 : i = j
    · subst h1
      rw [if_neg (by omega), if_pos rfl, if_pos hj, if_pos (by simp)]
      simp
    · rw [if_neg h1]
      by_cases h2 : i + 1 ≤ j ∧ j < i + 1 + b.length
      · rw [if_pos h2, if_pos (by simp; omega)]
        obtain ⟨k, rfl⟩ : ∃ k, j = i + 1 + k := ⟨j - (i + 1), by omega⟩
        rw [show i + 1 + k - (i + 1) = k by omega, show i + 1 + k - i = k + 1 by omega, List.getD_cons_succ]
      · rw [if_neg h2, if_neg (by simp; omega)]
theorem zipS_len (x : Int) : ∀ (b r : List Int), b.length ≤ r.length → (zipS x b r).length = r.length
  | [], r, _ => rfl
  | _ :: _, [], h => by simp at h
  | y :: b, z :: r, h => by rw [zipS, List.length_cons, zipS_len x b r (by simpa using h)]; rfl
theorem zipS_at (x : Int) : ∀ (b r : List Int) (j : Nat), b.length ≤ r.length → j < r.length → (zipS x b r).getD j 0 = if j < b.length then W (r.getD j 0 - W (x * b.getD j 0)) else r.getD j 0
  | [], r, j, _, _ => by rw [if_neg (by simp)]; rfl
  | _ :: _, [], j, h, _ => by simp at h
  | y :: b, z :: r, 0, h, _ => by rw [zipS, if_pos (by simp), Wq_eq, Wq_eq]; rfl
  | y :: b, z :: r, j + 1, h, hj => by
    rw [zipS, List.getD_cons_succ, zipS_at x b r j (by simpa using h) (by simpa using hj)]
    simp only [List.length_cons, List.getD_cons_succ, Nat.add_lt_add_iff_right]
theorem getD_rev (l : List Int) (j : Nat) (hj : j < l.length) : l.reverse.getD j 0 = l.getD (l.length - 1 - j) 0 := by
  rw [List.getD_eq_getElem?_getD, List.getElem?_reverse hj, ← List.getD_eq_getElem?_getD]
theorem getD_take (l : List Int) (n j : Nat) (hj : j < n) : (l.take n).getD j 0 = l.getD j 0 := by
  rw [List.getD_eq_getElem?_getD, List.getElem?_take_of_lt hj, ← List.getD_eq_getElem?_getD]
theorem eqD {a b : List Int} (hl : a.length = b.length) (h : ∀ j, j < a.length → a.getD j 0 = b.getD j 0) : a = b := by
  apply List.ext_getElem hl
  intro i h1 h2
  have := h i h1
  rw [List.getD_eq_getElem?_getD, List.getElem?_eq_getElem h1, List.getD_eq_getElem?_getD, List.getElem?_eq_getElem h2] at this
  exact this
theorem zip_sub (x : Int) (b r : List Int) (n d : Nat) (hb : b.length = d + 1) (hr : n + d < r.length) : zipS x (b.take d).reverse (r.take (n + d)).reverse = ((subAt x n b r).take (n + d)).reverse := by
  have hbl : (b.take d).reverse.length = d := by rw [List.length_reverse, List.length_take]; omega
  have hrl : (r.take (n + d)).reverse.length = n + d := by rw [List.length_reverse, List.length_take]; omega
  apply eqD
  · rw [zipS_len _ _ _ (by omega), hrl, List.length_reverse, List.length_take, subAt_len]; omega
  · intro j hj
    rw [zipS_len _ _ _ (by omega), hrl] at hj
    rw [zipS_at _ _ _ _ (by omega) (by omega), hbl, getD_rev (r.take (n + d)) j (by rw [List.length_take]; omega), getD_rev ((subAt x n b r).take (n + d)) j (by rw [List.length_take, subAt_len]; omega)]
    have e1 : (r.take (n + d)).length = n + d := by rw [List.length_take]; omega
    have e2 : ((subAt x n b r).take (n + d)).length = n + d := by rw [List.length_take, subAt_len]; omega
    rw [e1, e2, getD_take _ _ _ (by omega), getD_take _ _ _ (by omega), subAt_at x b n r _ (by omega)]
    by_cases h : j < d
    · rw [if_pos h, if_pos (by omega), getD_rev _ _ (by rw [List.length_take]; omega)]
      have e3 : (b.take d).length = d := by rw [List.length_take]; omega
      rw [e3, getD_take _ _ _ (by omega), show n + d - 1 - j - n = d - 1 - j by omega]
    · rw [if_neg h, if_neg (by omega)]
theorem div_key (b : List Int) (d : Nat) (hb : b.length = d + 1) : ∀ (n : Nat) (q r : List Int), n + d ≤ r.length → n ≤ q.length →
    (divGo d b n q r).1 = (divR (b.take d).reverse n (r.take (n + d)).reverse).1.reverse ++ q.drop n ∧ (divGo d b n q r).2.take d = (divR (b.take d).reverse n (r.take (n + d)).reverse).2.reverse
  | 0, q, r, _, _ => by simp [divGo, divR]
  | n + 1, q, r, hr, hq => by
    have hx : (r.take (n + 1 + d)).reverse = r.getD (n + d) 0 :: (r.take (n + d)).reverse := by
      rw [show n + 1 + d = (n + d) + 1 by omega, List.take_succ_eq_append_getElem (by omega), List.reverse_append, List.getD_eq_getElem?_getD, List.getElem?_eq_getElem (by omega)]; rfl
    rw [hx, divGo, divR, zip_sub _ b r n d hb (by omega)]
    obtain ⟨h1, h2⟩ := div_key b d hb n (q.set n (r.getD (n + d) 0)) (subAt (r.getD (n + d) 0) n b r) (by rw [subAt_len]; omega) (by rw [List.length_set]; omega)
    refine ⟨?_, h2⟩
    rw [h1]
    have hd : (q.set n (r.getD (n + d) 0)).drop n = r.getD (n + d) 0 :: q.drop (n + 1) := by
      rw [List.drop_eq_getElem_cons (by rw [List.length_set]; omega), List.getElem_set_self, List.drop_set_of_lt (by omega)]
    rw [hd]
    simp
theorem divS_eq (a b : List Int) (hb : 0 < b.length) : divS a b = divF a b := by
  obtain ⟨d, hd⟩ : ∃ d, b.length = d + 1 := ⟨b.length - 1, by omega⟩
  simp only [divS, divF, hd, Nat.add_sub_cancel]
  by_cases h : d ≤ a.length
  · obtain ⟨n, hn⟩ : ∃ n, a.length = n + d := ⟨a.length - d, by omega⟩
    obtain ⟨h1, h2⟩ := div_key b d hd n (List.replicate n 0) a (by omega) (by rw [List.length_replicate]; omega)
    rw [hn, Nat.add_sub_cancel, Nat.min_eq_left (by omega), h1, h2]
    rw [show a.take (n + d) = a by rw [← hn, List.take_length]]
    simp
  · rw [show a.length - d = 0 by omega, Nat.min_eq_right (by omega)]
    simp [divGo, divR]
theorem divGo_len (d : Nat) (b : List Int) : ∀ (n : Nat) (q r : List Int), (divGo d b n q r).1.length = q.length ∧ (divGo d b n q r).2.length = r.length
  | 0, _, _ => ⟨rfl, rfl⟩
  | n + 1, q, r => by
    have := divGo_len d b n (q.set n (r.getD (n + d) 0)) (subAt (r.getD (n + d) 0) n b r)
    rw [divGo]
    exact ⟨this.1.trans (by simp), this.2.trans (subAt_len ..)⟩
theorem subAt_snoc (x y : Int) : ∀ (b : List Int) (i : Nat) (r : List Int), subAt x i (b ++ [y]) r = (subAt x i b r).set (i + b.length) (W ((subAt x i b r).getD (i + b.length) 0 - W (x * y)))
  | [], i, r => rfl
  | z :: b, i, r => by
    rw [List.cons_append, subAt, subAt_snoc x y b, subAt]
    simp only [List.length_cons, show i + 1 + b.length = i + (b.length + 1) by omega]



/-! cyclotomic polynomials -/
def xn1 (n : Nat) : List Int := ((List.replicate (n + 1) 0).set 0 (-1)).set n 1
def phiAux (f : Nat → List Int) (n : Nat) : Nat → List Int
  | 0 => xn1 n
  | k + 1 => if n % (k + 1) = 0 then (divF (phiAux f n k) (f (k + 1))).1 else phiAux f n k
def phiG : Nat → Nat → List Int
  | 0, _ => []
  | F + 1, n => phiAux (phiG F) n (n - 1)
def phiR (n : Nat) : List Int := phiG n n
def phiCode : List (Nat × Nat) := [(0, 0), (2, 151), (2, 153), (3, 2457), (3, 2441), (5, 629145), (3, 2425), (7, 161061273), (5, 624777), (7, 159946889), (5, 620921), (11, 10555311626649), (5, 624521), (13, 2702159776422297), (7, 158955897), (9, 40677906553), (9, 40945354889), (17, 177088743107611695513), (7, 159938697), (19, 45334718235548594051481), (9, 40928642953), (13, 2665867033155705), (11, 10417333696889), (23, 2971056094284912659757898137), (9, 40945289353), (21, 11525093966582068918388873), (13, 2666837426403705), (19, 45019893803426003847305), (13, 2682299544602505), (29, 49846049841934345233892764760512921), (9, 41212672153), (31, 12760588759535192379876547778691307929), (17, 175858960169364392073), (21, 11449811718665211671451769), (17, 174773857576793241977), (25, 750356793591111387081847900281), (13, 2683394761197705), (37, 214087153905893982158742895417424270457411993), (19, 44742107539659069946233), (25, 750374860794439105441270569081), (17, 175858678698682583177), (41, 14030415718376668014755374394076316988696952412569), (13, 2700913966282905), (43, 3591786423904427011777375844883537149106419817617817), (21, 11520388822143454568613769), (25, 755289139824025491090006636681), (23, 2932218759719096807996356985), (47, 235391315077000528643842103370287490603838329167401294233), (17, 175858960165069424777), (43, 3566843464021109515407160447962135792033638593890441), (21, 11525091660739059702597769), (33, 3222835486852668465682038581980803078265), (25, 755000201847993438608671999881), (53, 3949210937570894501171926038137641211958566077520591672036661657), (19, 45019893803288564893833), (41, 13841639730240372734519391232290477144187998865529), (25, 755307273728613533032305363081), (37, 211211746466376480566867504482136737817532537), (29, 49194467491059386472665408358414713), (59, 66256764929189412359373656277859444343530646132835710929560232548473241), (17, 175931016659578947977), (61, 16961731821872489563999656007132017751943845410005941997967419532409149849), (31, 12593783677711202937002344539754166649), (37, 212594993041778978259392401700842497263564937), (33, 3244025231312946685017504590849523615881), (49, 59449389964396329908799417747768486098220103552877224036473), (21, 11600337159278559593199769), (67, 284570638509628281872968052757351402340196314314278250183370958457847307403106713), (33, 3242701175410530582046829981482084829065), (45, 907147543604130547658274284221398257252489975254456441), (25, 760260162199380209476776265881), (71, 18649621365366999080826834305505781503767105654900539404017399133493481137970001582489), (25, 755308482635986403583475615881), (73, 4774303069533951764691669582209480064964379047654538087428454178174331171320320405117337), (37, 211288629018235237293922726849876240778230137), (41, 13932980882091366246645498450549735455236097083529), (37, 212513664231704532225021049666409911357638537), (61, 16733514082176017857563484169281622473742013230441519301156877912783751289), (25, 760239696070484446719462832281), (79, 80099513847034128089813313981358204297601419588374478873014060293333239716774020625861078260121), (33, 3244025231233718522521686997325394249865), (55, 1003977180573578513186818530584325112625353567911961643780451895433), (41, 13847011591339064511294519826833489315642090289529), (83, 5249401739479228618494005345082291276847606634143709847421849455383887198078502215736431624855329177), (25, 755617962904995084654487308681), (65, 1096647682011376066383824036176430611075042989679104899541257005342224759163001), (43, 3544834967382800514891397075669373264804375114119545), (57, 255339333709101444150516608824168341219168316320432770196444820248697), (41, 13932959975483019797621960751752929401527886907529), (89, 88070346854018746045855522379600138526588095584061995151523411432457838441797816629888712439428826363697561), (25, 755327825447947316076944595081), (73, 4710065486567902438636258451587916643808098366820744937652522227971235237785322557835385), (45, 912739237828295932241443521228822279011316478478223241), (61, 16733918573959672243848256475900696390274029346865051399581267058705799289), (47, 232314304422399214543922598751068046282219527478938532217), (73, 4710065929473067705074075703562930892583142549650354286959801792553607979366424442865785), (33, 3244025231312946684999057846775814064265), (97, 378259259485387000437878784961378692528765496996468288012303616680758929006373221869576956046895190151743628706945433), (43, 3566843461233516365590832516584544780284459278174345), (61, 16843510658432960930064170678977648248973865363229105764565767273415473289), (41, 13932982275886611925546011698281480593855939643529), (101, 24789598829634322460696824051228913993565175611160545723174329822790217171361675468444595391489323181784670450938375936409), (33, 3265204631743710489796157998344532621465), (103, 6346137300386386549938386957114601982352684956457099705132628434634295595868588919921816420221266734536875635440224239720857), (49, 59841607431176531834106860000174406451759126699825921755273), (49, 60258535589025878623825640513895955568394956990804064242073), (53, 3897587265184346860633730926527998843174793971932087205735528825), (107, 415900454118122228936762127621462555515465561306372486275571937092193196170843843455996160915620936714608681644210535774346123673), (37, 212600437559325273949302458499431510045132937), (109, 106470516254239290607811104671094414211959183694431356486546415895601458219736023924735017194398959798939822500917897158232607660441), (41, 14024324647313585780441561464861042647155078629529), (73, 4710179340883312607900938977320219648951426461019905426339024281756500688051209083787385), (49, 59841703209224854978243905283217778635093729231475501992073), (113, 6977651753237826149273508555724843529794957062598253378702305912134137165888620063931434086852130229383320207420155308161932175634700697), (37, 213988450745955810659360957696727655658256537), (89, 86885380771288582593426961402638446196917517852812621054695594419043261897695283723939125132104983320758393), (57, 256913255710621505446663415366213528515365535021128526761562185762697), (73, 4741026770308103785878084403040820523455809050218768967991130979886835663014912370178185), (59, 65390663426847067099774000640240366639693644222602564381461405979212153), (97, 373169833822629297678459079000017948860731632057710991157184794383567080665707847225391954445012941837918946713962617), (33, 3244030423609804010900866481167991933065)]
def decP : Nat → Nat → List Int
  | 0, _ => []
  | l + 1, k => (((k % 16 : Nat) : Int) - 8) :: decP l (k / 16)
def phiTab : List (List Int) := phiCode.map fun c => decP c.1 c.2
def phiF (n : Nat) : List Int := match phiTab[n]? with | some l => l | none => phiR n
theorem phiAux_congr {f g : Nat → List Int} {n : Nat} : ∀ {k : Nat}, (∀ d, 1 ≤ d → d ≤ k → f d = g d) → phiAux f n k = phiAux g n k
  | 0, _ => rfl
  | k + 1, h => by
    rw [phiAux, phiAux, phiAux_congr (fun d h1 h2 => h d h1 (by omega)), h (k + 1) (by omega) (Nat.le_refl _)]
theorem phiG_stable : ∀ (n F G : Nat), 1 ≤ n → n ≤ F → n ≤ G → phiG F n = phiG G n := by
  intro n
  induction n using Nat.strongRecOn with
  | ind n ih =>
    intro F G h1 hF hG
    obtain ⟨F, rfl⟩ : ∃ F', F = F' + 1 := ⟨F - 1, by omega⟩
    obtain ⟨G, rfl⟩ : ∃ G', G = G' + 1 := ⟨G - 1, by omega⟩
    rw [phiG, phiG]
    exact phiAux_congr fun d h1 h2 => ih d (by omega) F G h1 (by omega) (by omega)
theorem phiR_eq (n : Nat) (hn : 1 ≤ n) : phiR n = phiAux phiR n (n - 1) := by
  obtain ⟨m, rfl⟩ : ∃ m, n = m + 1 := ⟨n - 1, by omega⟩
  show phiG (m + 1) (m + 1) = _
  rw [phiG]
  exact phiAux_congr fun d h1 h2 => phiG_stable d m d h1 (by omega) (Nat.le_refl _)
theorem tab_ok : (List.range 121).all (fun n => n == 0 || decide (phiAux (fun d => phiTab.getD d []) n (n - 1) = phiTab.getD n [])) = true := by decide +kernel
theorem tab_phiR : ∀ n, n ≤ 120 → phiTab[n]? = some (phiR n) := by
  intro n
  induction n using Nat.strongRecOn with
  | ind n ih =>
    intro hn
    have hl : phiTab.length = 121 := by decide +kernel
    rw [List.getElem?_eq_getElem (by omega)]
    congr 1
    rcases Nat.eq_zero_or_pos n with h0 | h0
    · subst h0; rfl
    · have h := List.all_eq_true.1 tab_ok n (List.mem_range.2 (by omega))
      have hb : (n == 0) = false := by simp; omega
      rw [hb, Bool.false_or, decide_eq_true_eq] at h
      rw [phiR_eq n h0]
      rw [List.getD_eq_getElem?_getD, List.getElem?_eq_getElem (by omega), Option.getD_some] at h
      rw [← h]
      exact phiAux_congr fun d h1 h2 => by
        rw [List.getD_eq_getElem?_getD, ih d (by omega) (by omega)]; rfl
theorem phiF_R (n : Nat) : phiF n = phiR n := by
  unfold phiF
  by_cases h : n ≤ 120
  · rw [tab_phiR n h]
  · have hl : phiTab.length = 121 := by decide +kernel
    rw [List.getElem?_eq_none (by omega)]
theorem phiF_eq (n : Nat) (hn : 1 ≤ n) : phiF n = phiAux phiF n (n - 1) := by
  rw [phiF_R, phiR_eq n hn]
  exact phiAux_congr fun d _ _ => (phiF_R d).symm

end
end Go.Proofs.Ythfabknpogbcaaa
