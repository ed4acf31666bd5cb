/- The statements, and all together: a call that the abstract machine answers, the machine answers. -/
import Derived.Test.YtcdbmkidaecdiaaGreatAy20
namespace Go.Ay
open Go
section
variable {P:Program} {p:Nat->Option Fn} {cl yl:lQ} {N:Nat}
theorem OI.still {m:M}{h:H}{w:World}{nt:Nat}{pv:List Nat}{a:Act}{e:E}{b:List V}{Q:Exit->Act->World->Prop}(c:OI P m h w nt pv a e b h Q)
  (f:HR P m h w) (d:jW m nt pv b a.tmps):Q (BV e) a w:=c a w m [] (jR.Sa f) d (by simp) trivial
theorem YN {nt:Nat}{pv:List Nat}{x:Code}{j:C}{rd rr:Option Nat}
  (A: ∀vars h e vars' h',run cl yl N rd j vars h=some (e,vars',h')-> ∀m w a,jW m nt pv vars a.tmps->RdR m rd rr->HR P m h w->Vz m h.next-> ∀Q,OI P m h w nt pv a e vars' h' Q->x.wpIn (Wf rr) 0 P Q a w):
  ∀n vars h e vars' h',Ph (run cl yl N rd j) n vars h=some (e,vars',h')-> ∀m w a,jW m nt pv vars a.tmps->RdR m rd rr->HR P m h w->Vz m h.next-> ∀Q,OI P m h w nt pv a e vars' h' Q->
   Nx (Wf rr) 0 P x Q a w:=by
 intro n
 induction n with
 |zero=>intro vars h e vars' h' c;cases c
 |succ n ih=>
  intro vars h e vars' h' c m w a F f B t Q r;rw[Ph] at c;refine Nx.step ?_
  cases hra:run cl yl N rd j vars h with
  |none=>simp [hra] at c
  |some q=>
   obtain⟨G,i,U⟩:=q;simp only[hra] at c;refine A _ _ _ _ _ hra m w a F f B t _ λv y u b d o s l=>?_
   cases G with
   |norm=>
    exact ih _ _ _ _ _ c u y v o (f.mono d.ext) d.rel (d.low t) _ λO K J g k L z R=>
     r O K J (g++b) (d.trans k) L (by rw[z,s,Lz]) (vN.append d.kept.size g b _ k.kept.size R (vN.NA d.rel k b _ l))
   |_=>cases c;exact r v y u b d o s l
theorem XS (hm:P.follows .mixedOrders=true)(W:Hz P cl)(a0:Bp P yl):agZ P cl yl N:=by
 intro nt pv a6
 induction a6 with
 |skip=>
  intro c f rd vars h e d A b m w a rr k i o t Q j;simp only[lC] at f;cases f;rw[run] at b;cases b;exact wpIn_skip (j.still o k)
 |label l=>
  intro c f rd vars h e d A b m w a rr k i o t Q j;simp only[lC] at f;cases f;rw[run] at b;cases b;exact wpIn_label (j.still o k)
 |region id ops draw=>
  intro c f rd vars h e d A b m w a rr k i o t Q j;simp only[lC] at f;split at f
  ·rename_i hd
   subst hd;obtain⟨b9,xs,rfl,a3,hP⟩:=Vx f;rw[run] at b;split at b
   ·rename_i vs h2 O
    cases b;exact afC hm W a0 a3 hP O k o t (λa' w' m' L e2 e3=>j a' w' m' [] e3 L (by simpa using e2) trivial)
   ·cases b
  ·rename_i hd
   have hd:draw=false:=by simpa using hd
   subst hd;simp only[oU] at f;obtain⟨b7,a5,rfl⟩:=f;rw[run] at b;split at b
   ·rename_i b6 h2 O
    cases b;refine wpIn_region ?_;have:=afF (r:=rr) (Q:=Q) W a0 [] _ [] b7 vars [] h d A a5 O m w a ⟨k,Dy.nil ..⟩ o t (λa' w' m' L e2 e3=>j a' w' m' [] e3 L (by simpa using e2) trivial);simpa using this
   ·cases b
 |seq x y ihx ihy=>
  intro c f rd vars h e d A b m w a rr k i o t Q j;simp only[lC,Da,xP] at f;obtain⟨B,u,cy,F,f⟩:=f;cases f;rw[run] at b;refine wpIn_seq ?_
  cases hra:run cl yl N rd B vars h with
  |none=>simp [hra] at b
  |some q=>
   obtain⟨L,K,h1⟩:=q;simp only[hra] at b;refine ihx B u _ _ _ _ _ _ hra m w a rr k i o t _ λa1 w1 m1 z G Z b3 Y=>?_
   cases L with
   |norm=>
    exact ihy cy F _ _ _ _ _ _ b m1 w1 a1 rr Z (i.mono G.ext) G.rel (G.low t) _ λa2 w2 m2 a4 c1 c2 c3 c4=>
     j a2 w2 m2 (a4++z) (G.trans c1) c2 (by rw[c3,b3,Lz]) (vN.append G.kept.size a4 z _ c1.kept.size c4 (vN.NA G.rel c1 z _ Y))
   |_=>cases b;exact j a1 w1 m1 z G Z b3 Y
 |cond c x y ihx ihy=>
  intro c' f rd vars h e d A b m w a rr k i o t Q j;simp only[lC,Da,xP] at f;obtain⟨cc,b8,B,u,cy,F,f⟩:=f;cases f;rw[run] at b;have J:=aQ (s:=(⟨k,Dy.nil ..⟩:St m nt pv [] vars [] a)) b8;split at b
  ·rename_i R
   rw[R] at J;exact wpIn_cond_true J (ihx B u _ _ _ _ _ _ b m w a rr k i o t _ j)
  ·rename_i R
   rw[R] at J;exact wpIn_cond_false J (ihy cy F _ _ _ _ _ _ b m w a rr k i o t _ j)
  ·cases b
 |block id x ihx=>
  intro c f rd vars h e d A b m w a rr k i o t Q j;simp only[lC,Da,xP] at f;obtain⟨B,u,f⟩:=f;cases f;rw[run] at b;refine wpIn_block ?_
  cases hra:run cl yl N rd B vars h with
  |none=>simp [hra] at b
  |some q=>
   obtain⟨L,K,h1⟩:=q;simp only[hra] at b;refine ihx B u _ _ _ _ _ _ hra m w a rr k i o t _ λa1 w1 m1 z G Z b3 Y=>?_
   cases L with
   |exit n=>
    simp only at b;simp only[BV,Exit.inBlock];split at b
    ·rename_i hn
     cases b;rw[bJ hn];exact j a1 w1 m1 z G Z b3 Y
    ·rename_i hn
     cases b;rw[bU hn];exact j a1 w1 m1 z G Z b3 Y
   |_=>cases b;exact j a1 w1 m1 z G Z b3 Y
 |loop x ihx=>
  intro c f rd vars h e d A b m w a rr k i o t Q j;simp only[lC,Da,xP] at f;obtain⟨B,u,f⟩:=f;cases f;rw[run] at b;exact (YN (rr:=rr) (λvars h e d A b m w a k i o t Q j=>ihx B u rd vars h e d A b m w a rr k i o t Q j) N _ _ _ _ _ b m w a k i o t Q j).wp
 |exit n=>
  intro c f rd vars h e d A b m w a rr k i o t Q j;simp only[lC] at f;cases f;rw[run] at b;cases b;exact wpIn_exit (j.still o k)
 |ret=>
  intro c f rd vars h e d A b m w a rr k i o t Q j;simp only[lC] at f;cases f;rw[run] at b;cases b;exact wpIn_ret (j.still o k)
 |rangeFunc g ps x y ihx ihy=>
  intro c f rd vars h e d A b m w a rr k i o t Q j;simp only[lC,Da,xP] at f;obtain⟨cg,a7,pars,U,B,u,cy,F,f⟩:=f;cases f;rw[run] at b;split at b
  ·rename_i gf fs cs a9
   generalize b0:KI rd h=b5 at b
   cases b5 with
   |false=>simp at b
   |true=>
    simp only[if_true] at b
    cases hcall:cl gf (fs++ .yl h.next::cs) (h.new (.loop {vars,pars,assign:=B,body:=cy,st:= .ready,pend:=none})) with
    |none=>simp [hcall] at b
    |some q=>
     obtain⟨v,hA⟩:=q;simp only[hcall] at b;split at b
     ·rename_i r a8
      by_cases R:r.st= .busy
      ·simp [R] at b
      ·simp only[R,if_false] at b
       cases b;exact UP W k i o t a7 a9 U u F b0 hcall a8 R j
     ·cases b
  ·cases b
 |_=>intro c f;simp [lC] at f
theorem sound (b:P.follows .mixedOrders=true)(c:POk P p): ∀f,Hz P (nG p f).1/\Bp P (nG p f).2
 |0=>⟨λ_ _ _ _ _ a=>(nomatch a),λ_ _ _ _ _ a=>(nomatch a)⟩
 |f+1=>let ⟨h1,h2⟩:=sound b c f;⟨Ym c (XS b h1 h2),Vo (XS b h1 h2)⟩
theorem BG (i:P.follows .mixedOrders=true)(b:POk P p){f g:Nat}{args:List V}{h h':H}{v:V}(a:(nG p f).1 g args h=some (v,h')){m:M}{w:World}{xs:Array Value}(e:iR m args xs.toList)(c:HR P m h w)(d:Vz m h.next):
  Calls P g xs w (Lu P m h w v h'):=
 callsIn_wide.1 (((sound i b f).1 g args h v h' a).2 m w xs e c d)
end
end Go.Ay
