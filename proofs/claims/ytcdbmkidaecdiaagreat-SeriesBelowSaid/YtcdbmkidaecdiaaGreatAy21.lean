/- The statements, and all together: a call that the abstract machine answers, the machine answers. -/
import Derived.Test.YtcdbmkidaecdiaaGreatAy20
namespace Go.Ay
open Go
section
variable {P:Program} {p:Nat->Option Fn} {cl yl:lQ} {N:Nat}
theorem OI.still {m:M}{h:H}{w:World}{nt:Nat}{pv:List Nat}{a:Act}{e:E}{b:List V}{Q:Exit->Act->World->Prop}(c:OI P m h w nt pv a e b h Q)
  (f:HR P m h w) (d:jW m nt pv b a.tmps):Q (BV e) a w:=c a w m [] (jR.Sa f) d (by simp) trivial
theorem YN {nt:Nat}{pv:List Nat}{x:Code}{l:C}{rd rr:Option Nat}
  (L: ∀vars h e vars' h',run cl yl N rd l vars h=some (e,vars',h')-> ∀m w a,jW m nt pv vars a.tmps->RdR m rd rr->HR P m h w->Vz m h.next-> ∀Q,OI P m h w nt pv a e vars' h' Q->x.wpIn (Wf rr) 0 P Q a w):
  ∀n vars h e vars' h',Ph (run cl yl N rd l) n vars h=some (e,vars',h')-> ∀m w a,jW m nt pv vars a.tmps->RdR m rd rr->HR P m h w->Vz m h.next-> ∀Q,OI P m h w nt pv a e vars' h' Q->
   Nx (Wf rr) 0 P x Q a w:=by
 intro n
 induction n with
 |zero=>intro vars h e vars' h' c;cases c
 |succ n ih=>
  intro vars h e vars' h' c m w a R f O t Q o;rw[Ph] at c;refine Nx.step ?_
  cases hra:run cl yl N rd l vars h with
  |none=>simp [hra] at c
  |some q=>
   obtain⟨U,j,W⟩:=q;simp only[hra] at c;refine L _ _ _ _ _ hra m w a R f O t _ λs z v b d r u y=>?_
   cases U with
   |norm=>
    exact ih _ _ _ _ _ c v z s r (f.mono d.ext) d.rel (d.low t) _ λF G A i k B K J=>
     o F G A (i++b) (d.trans k) B (by rw[K,u,Lz]) (vN.append d.kept.size i b _ k.kept.size J (vN.NA d.rel k b _ y))
   |_=>cases c;exact o s z v b d r u y
theorem XS (hm:P.follows .mixedOrders=true)(L:Hz P cl)(a6:Bp P yl):agZ P cl yl N:=by
 intro nt pv a4
 induction a4 with
 |skip=>
  intro c f rd vars h e d A b m w a rr k i o t Q j;simp only[lC] at f;cases f;rw[run] at b;cases b;exact wpIn_skip (j.still o k)
 |label l=>
  intro c f rd vars h e d A b m w a rr k i o t Q j;simp only[lC] at f;cases f;rw[run] at b;cases b;exact wpIn_label (j.still o k)
 |region id ops draw=>
  intro c f rd vars h e d A b m w a rr k i o t Q j;simp only[lC] at f;split at f
  ·rename_i hd
   subst hd;obtain⟨b9,xs,rfl,a3,hP⟩:=Vx f;rw[run] at b;split at b
   ·rename_i vs h2 U
    cases b;exact afC hm L a6 a3 hP U k o t (λa' w' m' W e2 e3=>j a' w' m' [] e3 W (by simpa using e2) trivial)
   ·cases b
  ·rename_i hd
   have hd:draw=false:=by simpa using hd
   subst hd;simp only[oU] at f;obtain⟨b8,a5,rfl⟩:=f;rw[run] at b;split at b
   ·rename_i a7 h2 U
    cases b;refine wpIn_region ?_;have:=afF (r:=rr) (Q:=Q) L a6 [] _ [] b8 vars [] h d A a5 U m w a ⟨k,Dy.nil ..⟩ o t (λa' w' m' W e2 e3=>j a' w' m' [] e3 W (by simpa using e2) trivial);simpa using this
   ·cases b
 |seq x y ihx ihy=>
  intro c f rd vars h e d A b m w a rr k i o t Q j;simp only[lC,Da,xP] at f;obtain⟨G,u,cy,F,f⟩:=f;cases f;rw[run] at b;refine wpIn_seq ?_
  cases hra:run cl yl N rd G vars h with
  |none=>simp [hra] at b
  |some q=>
   obtain⟨W,R,h1⟩:=q;simp only[hra] at b;refine ihx G u _ _ _ _ _ _ hra m w a rr k i o t _ λa1 w1 m1 z B Y Z b4=>?_
   cases W with
   |norm=>
    exact ihy cy F _ _ _ _ _ _ b m1 w1 a1 rr Y (i.mono B.ext) B.rel (B.low t) _ λa2 w2 m2 a0 c1 c2 c3 c4=>
     j a2 w2 m2 (a0++z) (B.trans c1) c2 (by rw[c3,Z,Lz]) (vN.append B.kept.size a0 z _ c1.kept.size c4 (vN.NA B.rel c1 z _ b4))
   |_=>cases b;exact j a1 w1 m1 z B Y Z b4
 |cond c x y ihx ihy=>
  intro c' f rd vars h e d A b m w a rr k i o t Q j;simp only[lC,Da,xP] at f;obtain⟨cc,b0,G,u,cy,F,f⟩:=f;cases f;rw[run] at b;have J:=aQ (s:=(⟨k,Dy.nil ..⟩:St m nt pv [] vars [] a)) b0;split at b
  ·rename_i K
   rw[K] at J;exact wpIn_cond_true J (ihx G u _ _ _ _ _ _ b m w a rr k i o t _ j)
  ·rename_i K
   rw[K] at J;exact wpIn_cond_false J (ihy cy F _ _ _ _ _ _ b m w a rr k i o t _ j)
  ·cases b
 |block id x ihx=>
  intro c f rd vars h e d A b m w a rr k i o t Q j;simp only[lC,Da,xP] at f;obtain⟨G,u,f⟩:=f;cases f;rw[run] at b;refine wpIn_block ?_
  cases hra:run cl yl N rd G vars h with
  |none=>simp [hra] at b
  |some q=>
   obtain⟨W,R,h1⟩:=q;simp only[hra] at b;refine ihx G u _ _ _ _ _ _ hra m w a rr k i o t _ λa1 w1 m1 z B Y Z b4=>?_
   cases W with
   |exit n=>
    simp only at b;simp only[BV,Exit.inBlock];split at b
    ·rename_i hn
     cases b;rw[bJ hn];exact j a1 w1 m1 z B Y Z b4
    ·rename_i hn
     cases b;rw[bU hn];exact j a1 w1 m1 z B Y Z b4
   |_=>cases b;exact j a1 w1 m1 z B Y Z b4
 |loop x ihx=>
  intro c f rd vars h e d A b m w a rr k i o t Q j;simp only[lC,Da,xP] at f;obtain⟨G,u,f⟩:=f;cases f;rw[run] at b;exact (YN (rr:=rr) (λvars h e d A b m w a k i o t Q j=>ihx G u rd vars h e d A b m w a rr k i o t Q j) N _ _ _ _ _ b m w a k i o t Q j).wp
 |exit n=>
  intro c f rd vars h e d A b m w a rr k i o t Q j;simp only[lC] at f;cases f;rw[run] at b;cases b;exact wpIn_exit (j.still o k)
 |ret=>
  intro c f rd vars h e d A b m w a rr k i o t Q j;simp only[lC] at f;cases f;rw[run] at b;cases b;exact wpIn_ret (j.still o k)
 |rangeFunc g ps x y ihx ihy=>
  intro c f rd vars h e d A b m w a rr k i o t Q j;simp only[lC,Da,xP] at f;obtain⟨cg,b5,pars,O,G,u,cy,F,f⟩:=f;cases f;rw[run] at b;split at b
  ·rename_i gf fs cs a8
   generalize b7:KI rd h=b6 at b
   cases b6 with
   |false=>simp at b
   |true=>
    simp only[if_true] at b
    cases hcall:cl gf (fs++ .yl h.next::cs) (h.new (.loop {vars,pars,assign:=G,body:=cy,st:= .ready,pend:=none})) with
    |none=>simp [hcall] at b
    |some q=>
     obtain⟨v,hA⟩:=q;simp only[hcall] at b;split at b
     ·rename_i r a9
      by_cases K:r.st= .busy
      ·simp [K] at b
      ·simp only[K,if_false] at b
       cases b;exact UP L k i o t b5 a8 O u F b7 hcall a9 K j
     ·cases b
  ·cases b
 |_=>intro c f;simp [lC] at f
theorem sound (b:P.follows .mixedOrders=true)(c:POk P p): ∀f,Hz P (nG p f).1/\Bp P (nG p f).2
 |0=>⟨λ_ _ _ _ _ a=>(nomatch a),λ_ _ _ _ _ a=>(nomatch a)⟩
 |f+1=>let ⟨h1,h2⟩:=sound b c f;⟨Ym c (XS b h1 h2),Vo (XS b h1 h2)⟩
theorem BG (j:P.follows .mixedOrders=true)(b:POk P p){f g:Nat}{args:List V}{h h':H}{v:V}(i:(nG p f).1 g args h=some (v,h')){m:M}{w:World}{xs:Array Value}(a:iR m args xs.toList)(c:HR P m h w)(d:Vz m h.next):
  Calls P g xs w (Lu P m h w v h'):=
 callsIn_wide.1 (((sound j b f).1 g args h v h' i).2 m w xs a c d)
end
end Go.Ay
