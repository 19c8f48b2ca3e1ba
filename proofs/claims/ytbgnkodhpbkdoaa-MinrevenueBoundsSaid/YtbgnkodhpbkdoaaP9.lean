/- What the proof rests on, part 9: N10 Dig5 N11 N6b N12 N13 N14 N20 N21 N22 N23 N24 N25 N26 N27 N28 N29 N30 F1 F2 F3 F4 F5 F6 F7 F8 F9 F10 F11 F12 LP LP2 LP3 LP4 F13. -/
import Derived.Test.YtbgnkodhpbkdoaaP8
set_option maxRecDepth 100000
set_option maxHeartbeats 4000000
namespace Go.Proofs.Ytbgnkodhpbkdoaa
open Go Go.Am Go.Dig
theorem lk_pt_self {α:Type} {l:List (Nat × α)} {n:Nat} {x:α} (h:lk l n=some x):lk (pt l n x)=lk l:=by
 funext i
 rw[lk_pt]
 split
 ·subst i; exact h.symm
 ·rfl
section
variable {m:Am.Mode} {W v:List Nat} {σ:List (Nat × Entry)} {out:List (List (Nat × AV))} {b j off e g x:Nat} {K:Exit→St→Prop} (h:DigOk W v off e)
  (hg:g<B) (hx:∀ k,k<e+3→x/B^k%B=W.getD (off+k) 0) (hT:g*val v≤x) (hZ:x-g*val v<B^(e+3))
include h hg hx hT hZ
theorem digit_last (hK0:bor x (g*val v) (e+3)=0→K .ret {env:=[(4,uv g)],sto:=pt σ j (.arr 1 (drows (seg W off (digsN (e+3) (x-g*val v))))),out:=out,base:=b})
  (hK1:bor x (g*val v) (e+3)=1→0<g∧K .ret {env:=[(4,uv (g-1))],sto:=pt σ j (.arr 1 (drows (seg W off (digsN (e+3) (x-g*val v+val v))))),out:=out,base:=b}) :
  awp Try.prog c_n_digit_k4 {env:=[(0,.sl j 1 off (e+3)),(1,nl m v),(5,iv ((e:Int)+2)),(7,u64v g),(9,u64v (cK g v (e+2))),(10,u64v (bor x (g*val v) (e+2))),(82,iv ((e:Int)+2)),(83,iv ((e:Int)+2)),(84,bv false)],sto:=pt σ j (.arr 1 (drows (seg W off (mixD (x-g*val v) ((W.drop off).take (e+3)) (e+2))))),out:=out,base:=b} K:=by
 have hvl:=h.hv
 have hWl:=h.hW
 have hsm:=h.small
 generalize hue:(W.drop off).take (e+3)=u at *
 have hul:u.length=e+3:=by rw[← hue]; simp; omega
 have hku:e+2<u.length:=by omega
 have hWk:off+(e+2)<W.length:=by omega
 have huk:u[e+2]=W[off+(e+2)]:=by subst hue; simp
 have hq:W.getD (off+(e+2)) 0=W[off+(e+2)]:=by simp[hWk]
 have hukB:u[e+2]<B:=by rw[huk]; exact ok_get h.okW hWk
 have hcB:cK g v (e+2)<B:=mul_carry_lt h.okv hg (e+2)
 have hcT:g*val v/B^(e+2)%B=cK g v (e+2):=by
  have:cK g v (e+2)=g*val v/B^(e+2):=by unfold cK; rw[List.take_of_length_le (by omega)]
  rw[← this,Nat.mod_eq_of_lt hcB]
 have hsd:=sub_digit (k:=e+2) hT
 have hbs:=bor_succ (x:=x) (y:=g*val v) (k:=e+2)
 have hb1:=bor_le (x:=x) (y:=g*val v) (k:=e+2)
 rw[hx (e+2) (by omega),hq,← huk,hcT] at hsd hbs
 have hmx:=mixD_set (Z:=x-g*val v) hku
 rw[show e+2+1=e+3 from rfl,mixD_all hul] at hmx
 have hml:=mixD_len (Z:=x-g*val v) (u:=u) (k:=e+2) (by omega)
 have hmg:=mixD_get (Z:=x-g*val v) hku
 have hsl:=seg_len (W:=W) (X:=mixD (x-g*val v) u (e+2)) (off:=off) (by rw[hml]; omega)
 have hsg:=seg_get (W:=W) (X:=mixD (x-g*val v) u (e+2)) (off:=off) (i:=e+2) (by rw[hml]; omega) (by omega)
 have hss:=seg_set (W:=W) (X:=mixD (x-g*val v) u (e+2)) (off:=off) (i:=e+2) (d:=(x-g*val v)/B^(e+2)%B) (by rw[hml]; omega) (by omega)
 rw[hmx] at hss
 rw[hmg] at hsg
 obtain ⟨d,hd⟩:∃ d,(x-g*val v)/B^(e+2)%B=d:=⟨_,rfl⟩
 rw[hd] at hss hsd
 rw[show e+2+1=e+3 from rfl] at hbs
 have hA:off+(e+2)<(seg W off (mixD (x-g*val v) u (e+2))).length:=by omega
 have hset:(drows (seg W off (mixD (x-g*val v) u (e+2)))).set (off+(e+2)) [uv d]=drows (seg W off (digsN (e+3) (x-g*val v))):=by rw[drows_set,hss]
 have hg0:bor x (g*val v) (e+3)=1→0<g:=fun h1=>by
  rcases Nat.eq_zero_or_pos g with h0 | h0
  ·exfalso
   rw[h0,Nat.zero_mul] at h1
   simp[bor] at h1
  ·exact h0
 generalize cK g v (e+2)=c at *
 generalize bor x (g*val v) (e+2)=b0 at *
 generalize hb2:bor x (g*val v) (e+3)=b2 at *
 generalize huk2:u[e+2]=uk at *
 clear hd
 have e1:((e:Int)+2).toNat=e+2:=by omega
 have e2:(0:Int)≤(e:Int)+2:=by omega
 have e3:(e:Int)+2<(e:Int)+3:=by omega
 rw[B_eq] at hukB hcB
 have u6:IntKind.u64.wrap (uk:Int)=uk:=w64 (by omega)
 have u7:=wsub ((uk:Int)-(c:Int)) (b0:Int)
 have u8:=w3264 ((uk:Int)-(c:Int)-(b0:Int))
 have hsd':((d:Nat):Int)=((uk:Int)-(c:Int)-(b0:Int))%4294967296:=hsd
 rw[← hsd'] at u8
 have u9:=shr63 (u:=(uk:Int)-(c:Int)-(b0:Int)) (by omega) (by omega)
 have u10:(if (uk:Int)-(c:Int)-(b0:Int)<0 then (1:Int) else 0)=(b2:Int):=by
  rw[hbs]; split<;>split<;>omega
 rw[u10] at u9
 have hgB:=hg
 rw[B_eq] at hgB
 have u11:IntKind.u32.wrap (g:Int)=(g:Int):=IntWalk.u32_in _ (by omega)
 have hb2v:b2=0∨b2=1:=by rw[hbs]; split<;>simp
 rcases hb2v with h0 | h0
 ·subst h0
  simp[c_n_digit_k4,e1,e2,e3,hA,hsg,u6,u7,u8,u9,u11,eBin_shr,splice,hset]
  exact hK0 rfl
 ·subst h0
  obtain ⟨hgp,hfin⟩:=hK1 rfl
  simp[c_n_digit_k4,e1,e2,e3,hA,hsg,u6,u7,u8,u9,eBin_shr,splice,hset]
  refine digit_back (m:=m) (σ:=σ) (out:=out) (b:=b) (j:=j) (g:=g) h (ok_digsN (n:=e+3) (x:=x-g*val v)) digsN_len ?_ ?_
  ·simp[stD2,mixD_zero,car_zero]
  ·refine awp_mono (fun ex s hs=>?_) (back_end h (ok_digsN (n:=e+3) (x:=x-g*val v)) digsN_len hgp hg)
   rw[val_digsN_lt hZ] at hs
   obtain ⟨rfl,rfl⟩:=hs
   exact hfin
theorem digit_mid (hj:lk σ j=some (.arr 1 (drows W))) {r y:AV} {q:Nat} (hq:q=69∨q=81) (hK0:bor x (g*val v) (e+3)=0→K .ret {env:=[(4,uv g)],sto:=pt σ j (.arr 1 (drows (seg W off (digsN (e+3) (x-g*val v))))),out:=out,base:=b})
  (hK1:bor x (g*val v) (e+3)=1→0<g∧K .ret {env:=[(4,uv (g-1))],sto:=pt σ j (.arr 1 (drows (seg W off (digsN (e+3) (x-g*val v+val v))))),out:=out,base:=b}) :
  awp Try.prog c_n_digit_k5 {env:=[(0,.sl j 1 off (e+3)),(1,nl m v),(5,iv ((e:Int)+2)),(7,u64v g),(8,r),(q,y)],sto:=σ,out:=out,base:=b} K:=by
 have hl:=digit_last (m:=m) (σ:=σ) (out:=out) (b:=b) (j:=j) h hg hx hT hZ hK0 hK1
 have hc0:cK g v 0=0:=by simp[cK,val]
 have hs:=seg_self (W:=W) (off:=off) (n:=e+3) (by have:=h.hW; omega)
 rcases hq with rfl | rfl
 ·simp[c_n_digit_k5]
  refine digit_sub h hg hx hT ?_ hl
  simp[stD1,mixD_zero,hs,hc0,bor_zero]
  exact .inr (.inl (lk_pt_self hj))
 ·simp[c_n_digit_k5]
  refine digit_sub h hg hx hT ?_ hl
  simp[stD1,mixD_zero,hs,hc0,bor_zero]
  exact .inr (.inl (lk_pt_self hj))
end
theorem val_drop2 {v:List Nat} {e:Nat} (h:v.length=e+2):val v=(v.getD (e+1) 0*B+v.getD e 0)*B^e+val (v.take e):=by
 have h1:=val_split v e
 have h2:v.drop e=[v[e],v[e+1]]:=by
  rw[List.drop_eq_getElem_cons (by omega),List.drop_eq_getElem_cons (by omega),List.drop_of_length_le (by omega)]
 rw[Nat.min_eq_left (by omega),h2] at h1
 have q1:v.getD (e+1) 0=v[e+1]:=by simp[h]
 have q2:v.getD e 0=v[e]:=by simp[h]
 rw[h1,q1,q2]
 simp only[val,Nat.mul_zero,Nat.add_zero]
 grind
theorem val_drop3 {u:List Nat} {e:Nat} (h:u.length=e+3):val u=((u.getD (e+2) 0*B+u.getD (e+1) 0)*B+u.getD e 0)*B^e+val (u.take e):=by
 have h1:=val_split u e
 have h2:u.drop e=[u[e],u[e+1],u[e+2]]:=by
  rw[List.drop_eq_getElem_cons (by omega),List.drop_eq_getElem_cons (by omega),List.drop_eq_getElem_cons (by omega),List.drop_of_length_le (by omega)]
 rw[Nat.min_eq_left (by omega),h2] at h1
 have q0:u.getD (e+2) 0=u[e+2]:=by simp[h]
 have q1:u.getD (e+1) 0=u[e+1]:=by simp[h]
 have q2:u.getD e 0=u[e]:=by simp[h]
 rw[h1,q0,q1,q2]
 simp only[val,Nat.mul_zero,Nat.add_zero]
 grind
theorem top_le {t v1 v2 u2 P Q R U V:Nat} (_hP:0<P) (hU:U=(t*B+u2)*P+R) (hV:V=(v1*B+v2)*P+Q) (hQ:Q<P) (hv2:v2<B) (hlt:U<V*B):t≤v1*B+(B-1):=by
 have a1:t*B*P≤U:=by
  rw[hU]
  have:t*B*P≤(t*B+u2)*P:=Nat.mul_le_mul_right _ (Nat.le_add_right _ _)
  exact Nat.le_trans this (Nat.le_add_right _ _)
 have a2:V≤(v1*B+B)*P:=by
  rw[hV]
  have h1:(v1*B+v2+1)*P≤(v1*B+B)*P:=Nat.mul_le_mul_right _ (by omega)
  rw[Nat.add_mul,Nat.one_mul] at h1
  exact Nat.le_trans (Nat.add_le_add_left (Nat.le_of_lt hQ) _) h1
 have a3:V*B≤(v1*B+B)*P*B:=Nat.mul_le_mul_right _ a2
 have a4:t*(P*B)<(v1*B+B)*(P*B):=by
  rw[← Nat.mul_assoc,← Nat.mul_assoc]
  rw[Nat.mul_assoc t,Nat.mul_comm B P,← Nat.mul_assoc] at a1
  exact Nat.lt_of_le_of_lt a1 (Nat.lt_of_lt_of_le hlt a3)
 have a5:=Nat.lt_of_mul_lt_mul_right a4
 have:=B_pos
 generalize v1*B=q at *
 omega
theorem gK_zero {w v1:Nat}:gK w v1 0=w/v1:=Nat.sub_zero _
theorem rK_zero {w v1:Nat}:rK w v1 0=w%v1:=by unfold rK; rw[Nat.zero_mul,Nat.add_zero]
theorem two_dig_lt {a c:Nat} (ha:a<B) (hc:c<B):a*B+c<18446744073709551616:=by
 have:(a+1)*B≤B*B:=Nat.mul_le_mul_right _ ha
 have hBB:B*B=18446744073709551616:=by decide
 rw[Nat.add_mul,hBB,Nat.one_mul] at this
 exact Nat.lt_of_lt_of_le (Nat.add_lt_add_left hc _) this
theorem digN_val {z n:Nat}:digsN n (z+B^n)=digsN n z:=digsN_mod
theorem dig_fin {m:Am.Mode} {W v:List Nat} {σ:List (Nat × Entry)} {out:List (List (Nat × AV))} {b j off e g U Q R:Nat} {K:Exit→St→Prop} (h:DigOk W v off e) (hg:g<B) (hj:lk σ j=some (.arr 1 (drows W)))
  {r y:AV} {q:Nat} (hq:q=69∨q=81) (hx:∀ k,k<e+3→U/B^k%B=W.getD (off+k) 0) (hUN:U<B^(e+3)) (hTN:g*val v<B^(e+3)) (hmod:val v*Q+R=U) (hR:R<val v) (hc:Q≤g∧g≤Q+1)
  (hK:∀ ex s,ex=.ret→s={env:=[(4,uv Q)],sto:=pt σ j (.arr 1 (drows (seg W off (digsN (e+3) R)))),out:=out,base:=b}→K ex s) :
  awp Try.prog c_n_digit_k5 {env:=[(0,.sl j 1 off (e+3)),(1,nl m v),(5,iv ((e:Int)+2)),(7,u64v g),(8,r),(q,y)],sto:=σ,out:=out,base:=b} K:=by
 rcases Nat.lt_or_ge U (g*val v) with hlt | hle
 ·have hgQ:g=Q+1:=by
   rcases Nat.lt_or_ge Q g with h1 | h1
   ·omega
   ·exfalso
    have:g*val v≤Q*val v:=Nat.mul_le_mul_right _ h1
    rw[Nat.mul_comm] at hmod
    omega
  subst hgQ
  have hz:U+B^(e+3)-(Q+1)*val v+val v=R+B^(e+3):=by
   rw[Nat.add_mul,Nat.one_mul] at *
   rw[Nat.mul_comm] at hmod
   omega
  refine digit_mid (x:=U+B^(e+3)) h hg (fun k hk=>?_) (by omega) (by omega) hj hq (fun h0=>?_) (fun _=>⟨by omega,?_⟩)
  ·rw[digit_add hk]; exact hx k hk
  ·exfalso
   simp only[bor,Nat.add_mod_right,Nat.mod_eq_of_lt hUN,Nat.mod_eq_of_lt hTN,if_pos hlt] at h0
   exact absurd h0 (by decide)
  ·refine hK _ _ rfl ?_
   rw[hz,digN_val,Nat.add_sub_cancel]
 ·have hgQ:g=Q:=by
   rcases Nat.lt_or_ge Q g with h1 | h1
   ·exfalso
    have:(Q+1)*val v≤g*val v:=Nat.mul_le_mul_right _ h1
    rw[Nat.add_mul,Nat.one_mul] at this
    rw[Nat.mul_comm] at hmod
    omega
   ·omega
  subst hgQ
  have hz:U-g*val v=R:=by
   rw[Nat.mul_comm] at hmod
   omega
  refine digit_mid (x:=U) h hg hx hle (by omega) hj hq (fun _=>?_) (fun h1=>?_)
  ·exact hK _ _ rfl (by rw[hz])
  ·exfalso
   simp only[bor,Nat.mod_eq_of_lt hUN,Nat.mod_eq_of_lt hTN,if_neg (Nat.not_lt.mpr hle)] at h1
   exact absurd h1 (by decide)
theorem digitI {m:Am.Mode} {W v:List Nat} {s:St} {K:AV→St→Prop} (b:Nat) {j off e U:Nat} (h:DigOk W v off e) (hj:lk s.sto j=some (.arr 1 (drows W)))
  (h1:0<v.getD (e+1) 0) (hU:U=val ((W.drop off).take (e+3))) (hlt:U<val v*B)
  (hK:K (uv (U/val v)) ⟨s.env,pt s.sto j (.arr 1 (drows (seg W off (digsN (e+3) (U%val v))))),s.out,s.base⟩):CallI Try.prog F_n_digit [.sl j 1 off (e+3),nl m v] s K:=by
 obtain ⟨env,σ,out,base⟩:=s
 simp only at hj hK
 have hvl:=h.hv
 have hWl:=h.hW
 have hsm:=h.small
 have hul:((W.drop off).take (e+3)).length=e+3:=by simp; omega
 have hug:∀ k,k<e+3→((W.drop off).take (e+3)).getD k 0=W.getD (off+k) 0:=fun k hk=>by
  simp[List.getD,hk]
 have hvV:=val_drop2 hvl
 have huU:=val_drop3 hul
 rw[← hU,hug _ (by omega),hug _ (by omega),hug _ (by omega)] at huU
 have okv2:ok ((W.drop off).take (e+3)):=ok_take (ok_drop h.okW off) _
 have hv2:v.getD e 0<B:=ok_getD h.okv _
 have hu2:W.getD (off+e) 0<B:=ok_getD h.okW _
 have hQ:val (v.take e)<B^e:=val_lt_of (ok_take h.okv e) (by simp; omega)
 have hR:val (((W.drop off).take (e+3)).take e)<B^e:=val_lt_of (ok_take okv2 e) (by simp; omega)
 have hclose:=qhat_close (w:=topW W off e) h1 hu2 hv2 huU hR hvV hQ hlt
 have hw:topW W off e≤v.getD (e+1) 0*B+(B-1):=by
  exact top_le (Nat.pow_pos B_pos) huU hvV hQ hv2 hlt
 have hv1:e+1<v.length:=by omega
 have hWa:off+(e+2)<W.length:=by omega
 have hWb:off+(e+1)<W.length:=by omega
 refine soundI' b t_n_digit (by simp) ?_
 have p1:v.getD (e+1) 0=v[e+1]:=by simp[hv1]
 have p2:W.getD (off+(e+2)) 0=W[off+(e+2)]:=by simp[hWa]
 have p3:W.getD (off+(e+1)) 0=W[off+(e+1)]:=by simp[hWb]
 have b1:v[e+1]<B:=ok_get h.okv hv1
 have b2:W[off+(e+2)]<B:=ok_get h.okW hWa
 have b3:W[off+(e+1)]<B:=ok_get h.okW hWb
 have hsh:=shl32 b2
 have hwe:topW W off e=W[off+(e+2)]*B+W[off+(e+1)]:=by rw[topW,p2,p3]
 have hor:bitI .or .u64 ((W[off+(e+2)]*B:Nat):Int) (W[off+(e+1)]:Int)=((topW W off e:Nat):Int):=by rw[hwe]; exact or_hi b2 b3
 have hwB:topW W off e<18446744073709551616:=by rw[hwe]; exact two_dig_lt b2 b3
 have fin:∀ K2:Exit→St→Prop,(∀ ex s,ex=.ret→s={env:=[(4,uv (U/val v))],sto:=pt σ j (.arr 1 (drows (seg W off (digsN (e+3) (U%val v))))),out:=env::out,base:=b}→K2 ex s) →
   awp Try.prog (.loop c_n_digit_l0) (stD0 m W v σ (env::out) b j off e 0) (blockC 0 (seqC Try.prog c_n_digit_k5 K2)):=by
  intro K2 hK2
  have hw3:∀ k,k<e+3→U/B^k%B=W.getD (off+k) 0:=fun k hk=>by
   have hd:=digsN_val okv2
   rw[hul,← hU] at hd
   have h2:k<(digsN (e+3) U).length:=by rw[digsN_len]; exact hk
   rw[← digsN_get h2,← hug k hk,← hd]
   simp[List.getD,h2]
  have hUN:U<B^(e+3):=by rw[hU]; exact val_lt_of okv2 (Nat.le_of_eq hul)
  have hVpos:0<val v:=by
   have hpp:=Nat.pow_pos (n:=e) B_pos
   rw[hvV]
   exact Nat.lt_of_lt_of_le (Nat.mul_pos (Nat.lt_of_lt_of_le (Nat.mul_pos h1 B_pos) (Nat.le_add_right _ _)) hpp) (Nat.le_add_right _ _)
  have hgB:qhat (topW W off e) (W.getD (off+e) 0) (v.getD (e+1) 0) (v.getD e 0)<B:=Nat.lt_of_le_of_lt (Nat.min_le_left _ _) (by decide)
  refine digit_guess h hj h1 hw _ rfl fun r q y hq=>?_
  generalize qhat (topW W off e) (W.getD (off+e) 0) (v.getD (e+1) 0) (v.getD e 0)=g at *
  have hmod:val v*(U/val v)+U%val v=U:=Nat.div_add_mod U (val v)
  have hml:=Nat.mod_lt U hVpos
  have hVN:val v<B^(e+2):=val_lt_of h.okv (Nat.le_of_eq hvl)
  have hTN:g*val v<B^(e+3):=by
   rw[show e+3=(e+2)+1 from rfl,Nat.pow_succ,Nat.mul_comm]
   exact Nat.mul_lt_mul_of_lt_of_lt hVN hgB
  exact dig_fin h hgB hj hq hw3 hUN hTN hmod hml hclose hK2
 have st0:stD0 m W v σ (env::out) b j off e 0={env:=[(0,.sl j 1 off (e+3)),(1,nl m v),(5,iv ((e:Int)+2)),(7,u64v (topW W off e/v.getD (e+1) 0)),(8,u64v (topW W off e%v.getD (e+1) 0))],sto:=σ,out:=env::out,base:=b}:=by
  rw[stD0,gK_zero,rK_zero]
 rw[st0] at fin
 clear hwe
 clear st0 hclose hw huU hvV
 obtain ⟨rb,hrb⟩:∃ rb,W[off+(e+2)]*B=rb:=⟨_,rfl⟩
 rw[hrb] at hor hsh
 generalize topW W off e=w at *
 rw[p1] at fin h1
 generalize g1:v[e+1]=v1 at *
 generalize g2:W[off+(e+2)]=w3 at *
 generalize g3:W[off+(e+1)]=w2 at *
 have t1:IntKind.u64.wrap ((w:Int).tdiv v1)=((w/v1:Nat):Int):=by
  rw[← Int.ofNat_tdiv]
  exact w64 (Nat.lt_of_le_of_lt (Nat.div_le_self _ _) hwB)
 have t2:((w:Int).tmod v1)=((w%v1:Nat):Int):=by rw[← Int.ofNat_tmod]
 have t3:IntKind.u64.wrap ((w:Int)/v1)=((w/v1:Nat):Int):=by
  rw[← Int.natCast_ediv]
  exact w64 (Nat.lt_of_le_of_lt (Nat.div_le_self _ _) hwB)
 generalize w/v1=q at *
 generalize w%v1=r at *
 have hv10:¬ v1=0:=by omega
 have c0:(e:Int)+2<(e:Int)+3:=by omega
 have c1:((e:Int)+2).toNat=e+2:=by omega
 have c2:((e:Int)+1).toNat=e+1:=by omega
 have c3:(0:Int)≤(e:Int)+2:=by omega
 have c4:(0:Int)≤(e:Int)+1:=by omega
 have c5:(e:Int)+1<(e:Int)+3:=by omega
 have i5:IntKind.i64.wrap ((e:Int)+2-1)=(e:Int)+1:=by rw[wrap64]<;>omega
 have hlen:(v.length:Int)=(e:Int)+2:=by omega
 rw[B_eq] at b1 b2 b3
 have u1:IntKind.u64.wrap (v1:Int)=v1:=w64 (by omega)
 have u2:IntKind.u64.wrap (w3:Int)=w3:=w64 (by omega)
 have u3:IntKind.u64.wrap (w2:Int)=w2:=w64 (by omega)
 simp[c_n_digit,hj,g1,g2,g3,c0,c1,c2,c3,c4,c5,i5,hlen,u1,u2,u3,hWa,hWb,hv1,hv10,eBin_shl,hsh,hor,eBin_quo,eBin_rem,t2,t3]
 refine fin _ fun ex s he hs=>?_
 subst he hs
 simp[r_n_digit]
 exact hK
end Go.Proofs.Ytbgnkodhpbkdoaa

namespace Go.Dig
def lz (t:Nat):Nat:=31-Nat.log2 t
theorem lz_lt {t:Nat}:lz t<32:=by unfold lz; omega
theorem log_lt {t:Nat} (ht:t<B):Nat.log2 t<32:=by
 rcases Nat.eq_zero_or_pos t with h | h
 ·subst h; decide
 ·exact (Nat.log2_lt (by omega)).2 ht
theorem lz_small {t k:Nat} (_ht:t<B) (hk:k<lz t):t*2^k<2147483648:=by
 have h1:t<2^(Nat.log2 t+1):=Nat.lt_log2_self
 have h2:t*2^k<2^(Nat.log2 t+1)*2^k:=Nat.mul_lt_mul_of_pos_right h1 (Nat.pow_pos (by omega))
 rw[← Nat.pow_add] at h2
 have h3:2^(Nat.log2 t+1+k)≤2^31:=Nat.pow_le_pow_right (by omega) (by unfold lz at hk; omega)
 have h4:(2:Nat)^31=2147483648:=by decide
 omega
theorem lz_top {t:Nat} (h0:0<t) (ht:t<B):2147483648≤t*2^lz t∧t*2^lz t<B:=by
 have hl:=log_lt ht
 constructor
 ·have h1:2^Nat.log2 t≤t:=Nat.log2_self_le (by omega)
  have h2:2^Nat.log2 t*2^lz t≤t*2^lz t:=Nat.mul_le_mul_right _ h1
  rw[← Nat.pow_add,show Nat.log2 t+lz t=31 by unfold lz; omega] at h2
  have h4:(2:Nat)^31=2147483648:=by decide
  omega
 ·have h1:t<2^(Nat.log2 t+1):=Nat.lt_log2_self
  have h2:t*2^lz t<2^(Nat.log2 t+1)*2^lz t:=Nat.mul_lt_mul_of_pos_right h1 (Nat.pow_pos (by omega))
  rw[← Nat.pow_add,show Nat.log2 t+1+lz t=32 by unfold lz; omega] at h2
  exact h2
theorem digs_len_eq {x n:Nat} (h1:B^n≤x) (h2:x<B^(n+1)):(digs x).length=n+1:=by
 have a:=digs_len_le.2 h2
 have b:=digs_len_lt.2 h1
 omega
theorem top_digit {D n:Nat} (h:(digs D).length=n+1):B^n≤D∧D<B^(n+1)∧0<D/B^n∧D/B^n<B:=by
 have a:B^n≤D:=digs_len_lt.1 (by omega)
 have b:D<B^(n+1):=digs_len_le.1 (by omega)
 refine ⟨a,b,Nat.div_pos a (pw_pos n),Nat.div_lt_of_lt_mul ?_⟩
 rw[← Nat.pow_succ]; exact b
theorem shift_len {D n N:Nat} (h:(digs D).length=n+1) (hN:N=lz (D/B^n)):B^n≤D*2^N∧D*2^N<B^(n+1)∧(digs (D*2^N)).length=n+1:=by
 obtain ⟨a,b,c,d⟩:=top_digit h
 have hl:=(lz_top c d).2
 rw[← hN] at hl
 have hN32:N<32:=by rw[hN]; exact lz_lt
 have hB:B=2^(32-N)*2^N:=by
  rw[← Nat.pow_add,Nat.sub_add_cancel (by omega)]; rfl
 have h1:D/B^n+1≤2^(32-N):=by
  have h0:=hl
  generalize D/B^n=t at *
  rw[hB] at h0
  exact Nat.lt_of_mul_lt_mul_right h0
 have h2:D<(D/B^n+1)*B^n:=by
  have:=Nat.lt_mul_div_succ D (pw_pos n)
  rw[Nat.mul_comm] at this
  exact this
 have h3:D<2^(32-N)*B^n:=Nat.lt_of_lt_of_le h2 (Nat.mul_le_mul_right _ h1)
 have h4:D*2^N<2^(32-N)*B^n*2^N:=Nat.mul_lt_mul_of_pos_right h3 (Nat.pow_pos (by omega))
 have h5:2^(32-N)*B^n*2^N=B^(n+1):=by
  rw[Nat.mul_right_comm,← hB,Nat.pow_succ,Nat.mul_comm]
 have h6:B^n≤D*2^N:=Nat.le_trans a (Nat.le_mul_of_pos_right _ (Nat.pow_pos (by omega)))
 rw[h5] at h4
 exact ⟨h6,h4,digs_len_eq h6 h4⟩
def rst (A V j:Nat):Nat:=A/B^j%V*B^j+A%B^j
theorem rst_lt {A V j n:Nat} (hV:V<B^n) (h0:0<V):rst A V j<B^(j+n):=by
 have h1:A/B^j%V+1≤B^n:=Nat.le_trans (Nat.mod_lt _ h0) (Nat.le_of_lt hV)
 have h2:(A/B^j%V+1)*B^j≤B^n*B^j:=Nat.mul_le_mul_right _ h1
 have h3:A%B^j<B^j:=Nat.mod_lt _ (pw_pos j)
 have h4:B^(j+n)=B^n*B^j:=by rw[Nat.pow_add,Nat.mul_comm]
 unfold rst
 rw[h4]
 rw[Nat.add_mul,Nat.one_mul] at h2
 omega
theorem rst_zero {A V:Nat}:rst A V 0=A%V:=by simp[rst,Nat.mod_one]
theorem rst_top {A V j:Nat} (h:A/B^j<V):rst A V j=A:=by
 unfold rst
 rw[Nat.mod_eq_of_lt h,Nat.mul_comm]
 exact Nat.div_add_mod A (B^j)
theorem rst_low {A V j:Nat}:rst A V j%B^j=A%B^j:=by
 unfold rst
 rw[Nat.add_comm,Nat.add_mul_mod_self_right,Nat.mod_mod]
theorem rst_seg {A V j:Nat}:rst A V (j+1)/B^j=A/B^j/B%V*B+A/B^j%B:=by
 unfold rst
 rw[show A/B^(j+1)=A/B^j/B by rw[Nat.pow_succ,Nat.div_div_eq_div_mul]]
 have h1:A%B^(j+1)=A%B^j+B^j*(A/B^j%B):=by rw[Nat.pow_succ,Nat.mod_mul]
 rw[h1,Nat.pow_succ]
 have h2:A/B^j/B%V*(B^j*B)+(A%B^j+B^j*(A/B^j%B))=A%B^j+(A/B^j/B%V*B+A/B^j%B)*B^j:=by grind
 rw[h2,Nat.add_mul_div_right _ _ (pw_pos j),Nat.div_eq_of_lt (Nat.mod_lt _ (pw_pos j)),Nat.zero_add]
theorem rst_step {A V j L n:Nat} (hV:V<B^n) (h0:0<V) (hL:j+n+1≤L):seg (digsN L (rst A V (j+1))) j (digsN (n+1) (A/B^j%V))=digsN L (rst A V j):=by
 have hlen:j+(digsN (n+1) (A/B^j%V)).length≤(digsN L (rst A V (j+1))).length:=by rw[digsN_len,digsN_len]; omega
 have hlt1:=rst_lt (A:=A) (j:=j+1) hV h0
 have hlt0:=rst_lt (A:=A) (j:=j) hV h0
 have hle:B^(j+1+n)≤B^L:=Nat.pow_le_pow_right B_pos (by omega)
 have hle0:B^(j+n)≤B^L:=Nat.pow_le_pow_right B_pos (by omega)
 have hL1:rst A V (j+1)<B^L:=Nat.lt_of_lt_of_le hlt1 hle
 have o1:ok (digsN L (rst A V (j+1))):=ok_digsN
 refine val_inj ?_ ok_digsN (by rw[seg_len hlen,digsN_len,digsN_len]) ?_
 ·unfold seg
  exact ok_append.2 ⟨ok_append.2 ⟨ok_take o1 _,ok_digsN⟩,ok_drop o1 _⟩
 ·unfold seg
  rw[val_append,val_append,val_take o1 (by rw[digsN_len]; omega),val_drop o1 (by rw[digsN_len,digsN_len]; omega),val_digsN_lt hL1,val_digsN_lt (Nat.lt_of_lt_of_le hlt0 hle0)]
  have hz:rst A V (j+1)/B^(j+(digsN (n+1) (A/B^j%V)).length)=0:=by
   rw[digsN_len]
   exact Nat.div_eq_of_lt (by rw[show j+(n+1)=j+1+n by omega]; exact hlt1)
  have hl:(List.take j (digsN L (rst A V (j+1)))).length=j:=by simp[digsN_len]; omega
  have hx:A/B^j%V<B^(n+1):=Nat.lt_trans (Nat.lt_trans (Nat.mod_lt _ h0) hV) (Nat.pow_lt_pow_right (by decide) (by omega))
  rw[hz,hl,val_digsN_lt hx,Nat.mul_zero,Nat.add_zero]
  have h1:rst A V (j+1)%B^j=A%B^j:=by
   have h2:rst A V (j+1)%B^(j+1)%B^j=A%B^(j+1)%B^j:=by rw[rst_low]
   rw[Nat.mod_mod_of_dvd _ (Nat.pow_dvd_pow B (by omega)),Nat.mod_mod_of_dvd _ (Nat.pow_dvd_pow B (by omega))] at h2
   exact h2
  rw[h1]
  unfold rst
  rw[Nat.mul_comm,Nat.add_comm]
theorem rst_digit {A V j:Nat} (h0:0<V):(rst A V (j+1)/B^j)/V=A/V/B^j%B∧(rst A V (j+1)/B^j)%V=A/B^j%V∧rst A V (j+1)/B^j<V*B:=by
 obtain ⟨s1,s2,s3⟩:=small_step (A:=A/B^j) h0
 rw[rst_seg]
 refine ⟨?_,s2,s3⟩
 rw[s1,Nat.div_div_eq_div_mul,Nat.div_div_eq_div_mul,Nat.mul_comm]
end Go.Dig
namespace Go.Dig
theorem shr_digit {X N i:Nat} (hN:N<32):(X/2^N)/B^i%B=(X/B^i%B)/2^N+(X/B^(i+1)%B)*2^(32-N)%B ∧
  (X/B^i%B)/2^N ||| (X/B^(i+1)%B)*2^(32-N)%B=(X/B^i%B)/2^N+(X/B^(i+1)%B)*2^(32-N)%B:=by
 have hB:B=2^(32-N)*2^N:=by
  rw[← Nat.pow_add,Nat.sub_add_cancel (by omega)]; rfl
 have hP:0<2^N:=Nat.pow_pos (by omega)
 have hM:0<2^(32-N):=Nat.pow_pos (by omega)
 rw[show X/2^N/B^i=X/B^i/2^N by rw[Nat.div_div_eq_div_mul,Nat.div_div_eq_div_mul,Nat.mul_comm],show X/B^(i+1)=X/B^i/B by rw[Nat.pow_succ,Nat.div_div_eq_div_mul]]
 generalize X/B^i=Y
 have hx:Y%B/2^N<2^(32-N):=by
  apply Nat.div_lt_of_lt_mul
  rw[Nat.mul_comm,← hB]; exact Nat.mod_lt _ B_pos
 have hc:∀ q,q*2^(32-N)%B=(q%2^N)*2^(32-N):=fun q=>by
  have h:=Nat.mul_mod_mul_right (2^(32-N)) q (2^N)
  rw[Nat.mul_comm (2^N) (2^(32-N)),← hB] at h
  exact h
 have hY:Y/2^N=Y/B*2^(32-N)+Y%B/2^N:=by
  have h1:Y=Y%B+2^N*(Y/B*2^(32-N)):=by
   have h2:=Nat.mod_add_div Y B
   have h3:2^N*(Y/B*2^(32-N))=B*(Y/B):=by
    have:2^N*(Y/B*2^(32-N))=2^(32-N)*2^N*(Y/B):=by
     generalize Y/B=z
     generalize (2:Nat)^N=p
     generalize (2:Nat)^(32-N)=m
     grind
    rw[this,← hB]
   rw[h3]; exact h2.symm
  have h4:Y/2^N=(Y%B+2^N*(Y/B*2^(32-N)))/2^N:=by rw[← h1]
  rw[h4,Nat.add_mul_div_left _ _ hP,Nat.add_comm]
 have hd:2^N ∣ B:=⟨2^(32-N),by rw[hB,Nat.mul_comm]⟩
 rw[hY,hc (Y/B%B),Nat.mod_mod_of_dvd _ hd]
 generalize hq:Y/B%2^N=a
 have ha:a<2^N:=by rw[← hq]; exact Nat.mod_lt _ hP
 generalize Y%B/2^N=c at *
 have hlt:a*2^(32-N)+c<B:=by
  have h1:(a+1)*2^(32-N)≤2^N*2^(32-N):=Nat.mul_le_mul_right _ ha
  rw[Nat.mul_comm (2^N),← hB,Nat.add_mul,Nat.one_mul] at h1
  omega
 constructor
 ·have h2:=hc (Y/B)
  rw[hq] at h2
  rw[Nat.add_mod,h2,Nat.mod_eq_of_lt (a:=c) (by omega),Nat.mod_eq_of_lt hlt,Nat.add_comm]
 ·have h:=Nat.two_pow_add_eq_or_of_lt hx a
  rw[Nat.or_comm,Nat.mul_comm a,← h,Nat.add_comm]
end Go.Dig
namespace Go.Dig
structure DivOk (A D n m N X V:Nat):Prop where
 N32:N<32
 X_eq:X=A*2^N
 V_eq:V=D*2^N
 Xlt:X<B^(n+2+m+1)
 Vlen:(digs V).length=n+2
 Vpos:0<V
 Vlt:V<B^(n+2)
 top:X/B^(m+1)<V
 q:X/V=A/D
 r:X%V=(A%D)*2^N
 vtop:0<(digs V).getD (n+1) 0
theorem divOk {A D n m:Nat} (hA:(digs A).length=n+2+m) (hD:(digs D).length=n+2):DivOk A D n m (lz (D/B^(n+1))) (A*2^lz (D/B^(n+1))) (D*2^lz (D/B^(n+1))):=by
 have hN32:lz (D/B^(n+1))<32:=lz_lt
 obtain ⟨h1,h2,h3⟩:=shift_len (n:=n+1) hD rfl
 obtain ⟨h4,h5,h6,h7⟩:=top_digit (n:=n+1) hD
 have hP:0<2^lz (D/B^(n+1)):=Nat.pow_pos (by omega)
 have hAlt:A<B^(n+2+m):=digs_len_le.1 (Nat.le_of_eq hA)
 generalize lz (D/B^(n+1))=N at *
 obtain ⟨k1,k2,k3,k4⟩:=top_digit (n:=n+1) h3
 refine ⟨hN32,rfl,rfl,?_,h3,Nat.lt_of_lt_of_le (pw_pos _) h1,h2,?_,Nat.mul_div_mul_right _ _ hP,Nat.mul_mod_mul_right _ _ _,?_⟩
 ·have:2^N≤B:=Nat.le_of_lt (pow_bits hN32)
  rw[Nat.pow_succ]
  exact Nat.lt_of_lt_of_le (Nat.mul_lt_mul_of_pos_right hAlt hP) (Nat.mul_le_mul_left _ this)
 ·apply Nat.div_lt_of_lt_mul
  have a1:A*2^N<B^(n+2+m)*2^N:=Nat.mul_lt_mul_of_pos_right hAlt hP
  have a2:B^(n+1)*2^N≤D*2^N:=Nat.mul_le_mul_right _ h4
  have a3:B^(m+1)*(B^(n+1)*2^N)≤B^(m+1)*(D*2^N):=Nat.mul_le_mul_left _ a2
  have a4:B^(n+2+m)=B^(m+1)*B^(n+1):=by rw[← Nat.pow_add]; congr 1; omega
  rw[a4,Nat.mul_assoc] at a1
  exact Nat.lt_of_lt_of_le a1 a3
 ·have hl:n+1<(digs (D*2^N)).length:=by rw[h3]; omega
  have:(digs (D*2^N)).getD (n+1) 0=D*2^N/B^(n+1):=by
   rw[List.getD_eq_getElem?_getD,List.getElem?_eq_getElem hl,Option.getD_some,get_digs,Nat.mod_eq_of_lt k4]
  rw[this]
  exact k3
theorem rst_val {A V j n L:Nat} (hV:V<B^n) (h0:0<V) (hL:j+n+1≤L):rst A V (j+1)/B^j=val (((digsN L (rst A V (j+1))).drop j).take (n+1)):=by
 have o1:ok (digsN L (rst A V (j+1))):=ok_digsN
 have hlt1:=rst_lt (A:=A) (j:=j+1) hV h0
 have hL1:rst A V (j+1)<B^L:=Nat.lt_of_lt_of_le hlt1 (Nat.pow_le_pow_right B_pos (by omega))
 have hlen:n+1≤((digsN L (rst A V (j+1))).drop j).length:=by rw[List.length_drop,digsN_len]; omega
 rw[val_take (ok_drop o1 _) hlen,val_drop o1 (by rw[digsN_len]; omega),val_digsN_lt hL1,Nat.mod_eq_of_lt]
 apply Nat.div_lt_of_lt_mul
 rw[← Nat.pow_add,show j+(n+1)=j+1+n by omega]
 exact hlt1
end Go.Dig

namespace Go.Proofs.Ytbgnkodhpbkdoaa
open Go Go.Am Go.Dig
def stDv0 (A D k:Nat):St:={env:=[(0,nD A),(1,nD D),(9,u64v k)],sto:=[]}
abbrev divR (A D:Nat):AV:=AV.tuple [nD (A/D),nD (A%D),iv 0]
theorem imp_tup3 {x1 x2 x3 y1 y2 y3:AV} (h1:AV.imp x1 y1) (h2:AV.imp x2 y2) (h3:AV.imp x3 y3):AV.imp (.tuple [x1,x2,x3]) (.tuple [y1,y2,y3]):=fun I w v hv=>by
 cases hv with
 | tuple cells vs hs hc =>
  refine .tuple _ _ (by simpa using hs) fun i c hi=>?_
  match i,hi with
  | 0,hi=>simp at hi; subst hi; exact h1 _ _ _ (hc 0 x1 rfl)
  | 1,hi=>simp at hi; subst hi; exact h2 _ _ _ (hc 1 x2 rfl)
  | 2,hi=>simp at hi; subst hi; exact h3 _ _ _ (hc 2 x3 rfl)
  | i+3,hi=>simp at hi
theorem imp_arg2 {f:FuncId} {x y y' r:AV} (h:SoundCall Try.prog f [x,y'] r) (hy:AV.imp y y'):SoundCall Try.prog f [x,y] r:=fun I vs w h1 h2 h3 =>
 h I vs w h1 h2 fun i a hi=>by
  match i,hi with
  | 0,hi=>exact h3 0 a hi
  | 1,hi=>simp at hi; subst hi; exact hy _ _ _ (h3 1 y rfl)
  | i+2,hi=>simp at hi
theorem small_zero {sz:Nat}:AV.imp (.list sz .full []) (nD 0):=by
 rw[nD,digs_zero]
 exact AV.imp_nil rfl
theorem div_start {m1 m2:Am.Mode} {a c:List Nat} (ha:ok a) (hc:ok c) (hna:a.length<549755813888) (hnc:c.length<549755813888) (f1:stm m1=m1) (f2:stm m2=m2) (hD:val c≠0)
  (hmain:∀ n m,(digs (val c)).length=n+2→(digs (val a)).length=n+2+m→val c≤val a →
   awp Try.prog (.loop c_n_DivMod_l0) (stDv0 (val a) (val c) 0) (blockC 0 (seqC Try.prog c_n_DivMod_k5 (retW r_n_DivMod (divR (val a) (val c)))))) :
  SoundCall Try.prog F_n_DivMod [nl m1 a,nl m2 c] (divR (val a) (val c)):=by
 have k1:=trim_sound (m:=m1) ha (by omega)
 have k2:=trim_sound (m:=m2) hc (by omega)
 have hla:=digs_digs_norm ha
 have hlc:=digs_digs_norm hc
 generalize val a=A at *
 generalize val c=D at *
 have kc:=cmp_sound (m1:=.plain) (m2:=.plain) (ok_digs A) (ok_digs D) (by omega) (by omega)
 rw[val_digs,val_digs] at kc
 have hl0:¬ (digs D).length=0:=by rw[List.length_eq_zero_iff,digs_eq_nil]; exact hD
 have hl0':¬ digs D=[]:=by rw[digs_eq_nil]; exact hD
 refine soundW' t_n_DivMod (by simp) ?_
 simp[c_n_DivMod]
 refine eCall_i k1 (by simp[f1]) (by simp) ?_
 simp
 refine eCall_i k2 (by simp[f2]) (by simp) ?_
 simp[hl0]
 refine eCall_i kc (by simp) (by simp) ?_
 by_cases hlt:A<D
 ·have hc1:cmpN A D=-1:=by simp[cmpN,hlt]
  simp[hc1]
  have ka:=add_sound (m1:=.plain) (m2:=.plain) (a:=digs A) (b:=[]) (ok_digs A) ok_nil (by omega) (by simp)
  rw[val_digs] at ka
  refine eCall_i (imp_arg2 ka (AV.imp_nil (sz:=0) rfl)) (by simp) (by simp) ?_
  simp[r_n_DivMod,val]
  rw[divR,Nat.div_eq_of_lt hlt,Nat.mod_eq_of_lt hlt]
  exact imp_tup3 small_zero AV.imp.refl AV.imp.refl
 ·have hc1:¬ cmpN A D<0:=by simp only[cmpN,if_neg hlt]; split<;>omega
  by_cases h1:(digs D).length=1
  ·have h1z:((digs D).length:Int)=1:=by omega
   have h10:0<(digs D).length:=by omega
   have hDB:D<B:=by
    have:=digs_len_le.1 (Nat.le_of_eq h1)
    simpa using this
   have hg:(digs D)[0]=D:=by rw[get_digs]; simp[Nat.mod_eq_of_lt hDB]
   have ks:=small_sound (m:=.plain) (a:=digs A) (d:=D) (ok_digs A) (by omega) (by omega) hDB rfl
   rw[val_digs] at ks
   have hm:A%D<D:=Nat.mod_lt _ (by omega)
   generalize hq:A%D=r at *
   rw[B_eq] at hDB
   have kf:=fromUint_sound (x:=r) (by omega)
   have u1:IntKind.u64.wrap (r:Int)=r:=w64 (by omega)
   simp[hc1,h1z,h10,hg]
   refine eCall_i ks (by simp) (by simp) ?_
   simp[u1]
   refine eCall_i kf (by simp) (by simp) ?_
   simp[r_n_DivMod]
   rw[divR,hq]
   exact AV.imp.refl
  ·have h1z:¬ ((digs D).length:Int)=1:=by omega
   simp[hc1,h1z]
   obtain ⟨n,hn⟩:∃ n,(digs D).length=n+2:=⟨(digs D).length-2,by omega⟩
   have hle:(digs D).length≤(digs A).length:=by
    rcases Nat.lt_or_ge (digs A).length (digs D).length with h2 | h2
    ·exact absurd (lt_of_len h2) hlt
    ·exact h2
   obtain ⟨m,hm⟩:∃ m,(digs A).length=n+2+m:=⟨(digs A).length-(n+2),by omega⟩
   exact hmain n m hn hm (by omega)
end Go.Proofs.Ytbgnkodhpbkdoaa

namespace Go.Proofs.Ytbgnkodhpbkdoaa
open Go Go.Am Go.Dig
theorem shifted_sound {m:Am.Mode} {a:List Nat} {bits:Nat} (ha:ok a) (hn:a.length<1099511627775) (hb:bits<32):SoundCall Try.prog F_n_shifted [nl m a,u64v bits] (nl .plain (digsN (a.length+1) (val a*2^bits))):=by
 refine soundW' t_n_shifted (by simp) ?_
 have w:IntKind.i64.wrap ((a.length:Int)+1)=(a.length:Int)+1:=wrap64 (by omega) (by omega)
 have e1:((a.length:Int)+1).toNat=a.length+1:=by omega
 simp[c_n_shifted,w,eMk,e1]
 refine ⟨by omega,by omega,by omega,?_⟩
 refine awp_forW (stSh a m [] [] 0 bits) (fun _=>True) a.length (by simp[stSh,shL_zero,digsN_zero]) trivial (fun i hi _=>?_) (fun _=>?_)
 ·have e:(i:Int)<a.length:=by omega
  have hpow:=pow_bits hb
  have hak:=ok_get ha hi
  have hL:=shL_lt (bits:=bits) (i:=i) ha
  have hLB:shL a bits i<B^(i+1):=by
   have:B^i*2^bits≤B^i*B:=Nat.mul_le_mul_left _ (by omega)
   rw[Nat.pow_succ]; omega
  have hc:shL a bits i/B^i<2^bits:=Nat.div_lt_of_lt_mul hL
  obtain ⟨o1,o2,o3,o4⟩:=low_or (c:=shL a bits i/B^i) (a:=a[i]) hb hc hak
  have hsucc:=shL_succ (bits:=bits) hi
  have hL2:=shL_lt (bits:=bits) (i:=i+1) ha
  have hLN:shL a bits (i+1)<B^(a.length+1):=by
   have h1:B^(i+1)*2^bits≤B^(i+1)*B:=Nat.mul_le_mul_left _ (by omega)
   have h3:B^(i+1+1)=B^(i+1)*B:=Nat.pow_succ _ _
   have h2:B^(i+1+1)≤B^(a.length+1):=Nat.pow_le_pow_right B_pos (by omega)
   omega
  have htB:(shL a bits i/B^i+a[i]*2^bits)/B<B:=by
   rw[← o3]
   apply Nat.div_lt_of_lt_mul
   exact Nat.mul_lt_mul_of_lt_of_lt hak hpow
  have hstep:=shift_step (N:=a.length+1) (i:=i) (t:=a[i]*2^bits) hLB (by omega) (by rw[← hsucc]; exact hLN) htB
  rw[← hsucc,← o2,← o3] at hstep
  have hlen:=digsN_len (n:=a.length+1) (x:=shL a bits i)
  have hi1:i<(digsN (a.length+1) (shL a bits i)).length:=by omega
  have hget:(digsN (a.length+1) (shL a bits i))[i]=shL a bits i/B^i:=by
   rw[digsN_get,Nat.mod_eq_of_lt (Nat.lt_trans hc hpow)]
  obtain ⟨c,hcE⟩:∃ c,shL a bits i/B^i=c:=⟨_,rfl⟩
  obtain ⟨t,htE⟩:∃ t,a[i]*2^bits=t:=⟨_,rfl⟩
  have htlt:t<B*B:=by rw[← htE]; exact Nat.mul_lt_mul_of_lt_of_lt hak hpow
  rw[hcE,htE] at o1 o4 hstep
  rw[hcE] at hget hc
  obtain ⟨x,hxE⟩:∃ x,t%B=x:=⟨_,rfl⟩
  obtain ⟨q,hqE⟩:∃ q,t/B=q:=⟨_,rfl⟩
  rw[hxE] at o1 o4 hstep
  rw[hqE] at hstep
  have hxB:x<B:=by rw[← hxE]; exact Nat.mod_lt _ B_pos
  have hqB:q<B:=by rw[← hqE]; exact Nat.div_lt_of_lt_mul htlt
  have hor:=or32 (c:=c) (x:=x) (by omega) hxB (by rw[o1]; exact o4)
  rw[o1] at hor
  obtain ⟨y,hyE⟩:∃ y,c+x=y:=⟨_,rfl⟩
  rw[hyE] at hor hstep
  have hBB:B*B=18446744073709551616:=by decide
  rw[hBB] at htlt
  have f1:IntKind.u32.wrap (t:Int)=(x:Int):=by rw[w32,hxE]
  have f2:(t:Int).fdiv (2^min 32 IntKind.u64.bits)=(q:Int):=by rw[shr32,hqE]
  have f3:IntKind.u32.wrap (q:Int)=q:=IntWalk.u32_in _ (by rw[B_eq] at hqB; omega)
  have u1:IntKind.u64.wrap ((a[i]:Nat):Int)=(a[i]:Nat):=w64 (by rw[B_eq] at hak; omega)
  have hmin:min bits IntKind.u64.bits=bits:=by
   have:IntKind.u64.bits=64:=rfl
   omega
  have u2:IntKind.u64.wrap (((a[i]:Nat):Int)*2^bits)=(t:Int):=by
   rw[show ((a[i]:Nat):Int)*2^bits=((a[i]*2^bits:Nat):Int) by simp,htE]; exact w64 htlt
  have hset:((drows (digsN (a.length+1) (shL a bits i))).set i [uv y]).set (i+1) [uv q]=drows (digsN (a.length+1) (shL a bits (i+1))):=by
   rw[drows_set,drows_set,hstep]
  have wi:IntKind.i64.wrap ((i:Int)+1)=(i:Int)+1:=wrap64 (by omega) (by omega)
  have ei1:(i:Int)<a.length+1:=by omega
  have e2:((i:Int)+1).toNat=i+1:=by omega
  have e3:(0:Int)≤(i:Int)+1:=by omega
  have hi2:i+1<(digsN (a.length+1) (shL a bits i)).length:=by omega
  have hnb:¬ ((bits:Int)<0):=by omega
  simp[c_n_shifted_l0,stSh,e,hi,hi1,hi2,ei1,e2,e3,hget,hor,u1,eBin_shl,eBin_shr,hmin,u2,f1,f2,f3,wi,splice,hset]
 ·have:digsN (a.length+1) (shL a bits a.length)=digsN (a.length+1) (val a*2^bits):=by rw[shL_all]
  have hlt:(digsN (a.length+1) (val a*2^bits)).length=a.length+1:=digsN_len
  have ht:List.take (a.length+1) (drows (digsN (a.length+1) (val a*2^bits)))=drows (digsN (a.length+1) (val a*2^bits)):=List.take_of_length_le (by rw[List.length_map,hlt]; exact Nat.le_refl _)
  simp[c_n_shifted_l0,stSh,c_n_shifted_k1,r_n_shifted,this,hlt,ht]
  exact AV.imp.refl
end Go.Proofs.Ytbgnkodhpbkdoaa

namespace Go.Proofs.Ytbgnkodhpbkdoaa
open Go Go.Am Go.Dig
theorem lz_top2 {t:Nat} (h0:0<t) (ht:t<B):∃ p,t*2^lz t=p∧2147483648≤p∧p<4294967296:=⟨_,rfl,(lz_top h0 ht).1,(lz_top h0 ht).2⟩
theorem div_bits {A D n _m:Nat} {K:Exit→St→Prop} (hD:(digs D).length=n+2) (hn:n<549755813888)
  (hK:∀ q y,(q=53)→awp Try.prog c_n_DivMod_k5 {env:=[(0,nD A),(1,nD D),(9,u64v (lz (D/B^(n+1)))),(q,y)],sto:=[]} K) :
  awp Try.prog (.loop c_n_DivMod_l0) (stDv0 A D 0) (blockC 0 (seqC Try.prog c_n_DivMod_k5 K)):=by
 obtain ⟨_,_,ht0,htB⟩:True∧True∧0<D/B^(n+1)∧D/B^(n+1)<B:=⟨trivial,trivial,(top_digit (n:=n+1) hD).2.2⟩
 have hg:(digs D)[n+1]'(by omega)=D/B^(n+1):=by rw[get_digs,Nat.mod_eq_of_lt htB]
 have hlen:((digs D).length:Int)=(n:Int)+2:=by omega
 have w0:IntKind.i64.wrap ((n:Int)+2-1)=(n:Int)+1:=by rw[wrap64]<;>omega
 have e1:((n:Int)+1).toNat=n+1:=by omega
 have e2:(0:Int)≤(n:Int)+1:=by omega
 have e3:n+1<(digs D).length:=by omega
 generalize D/B^(n+1)=t at *
 refine awp_forW (stDv0 A D) (fun _=>True) (lz t) (by simp[stDv0]) trivial (fun k hk _=>?_) (fun _=>?_)
 ·have hs:=lz_small htB hk
  have h32:=lz_lt (t:=t)
  obtain ⟨p,hp⟩:∃ p,t*2^k=p:=⟨_,rfl⟩
  rw[hp] at hs
  have hmin:min k IntKind.u32.bits=k:=by
   have:IntKind.u32.bits=32:=rfl
   omega
  have u1:IntKind.u32.wrap ((t:Int)*2^k)=(p:Int):=by
   rw[show (t:Int)*2^k=((t*2^k:Nat):Int) by simp,hp]; exact IntWalk.u32_in _ (by omega)
  have u2:IntKind.u64.wrap ((k:Int)+1)=(k:Int)+1:=w64' (by omega) (by omega)
  have c1:(p:Int)<2147483648:=by omega
  have c2:¬ ((k:Int)<0):=by omega
  simp[c_n_DivMod_l0,stDv0,hlen,w0,e1,e2,e3,hg,eBin_shl,hmin,u1,u2,c1,c2]
 ·have h32:=lz_lt (t:=t)
  obtain ⟨p,hp,h1,h2⟩:=lz_top2 ht0 htB
  have hk0:=hK _ (bv false) rfl
  clear hK
  generalize lz t=k at *
  have hmin:min k IntKind.u32.bits=k:=by
   have:IntKind.u32.bits=32:=rfl
   omega
  have u1:IntKind.u32.wrap ((t:Int)*2^k)=(p:Int):=by
   rw[show (t:Int)*2^k=((t*2^k:Nat):Int) by simp,hp]; exact IntWalk.u32_in _ (by omega)
  have c1:¬ (p:Int)<2147483648:=by omega
  have c3:¬ p<2147483648:=by omega
  have c2:¬ ((k:Int)<0):=by omega
  simp[c_n_DivMod_l0,stDv0,hlen,w0,e1,e2,e3,hg]
  rw[eBin_shl c2,Int.toNat_natCast,hmin,u1]
  generalize (p:Int)=z at *
  simp[c1]
  exact hk0
def stDv1 (A D n m N X V k:Nat):St :=
 {env:=[(4,.sl 72 1 0 (m+1)),(9,u64v N),(10,.sl 1011 1 0 (n+2+m+1)),(11,nD V),(12,iv ((n:Int)+2)),(13,iv m),(74,iv ((m:Int)+1)),(75,iv k)],
  sto:=[(72,.arr 1 (drows (smallQ (m+1) (A/D) k))),(1011,.arr 1 (drows (digsN (n+2+m+1) (rst X V (m+1-k)))))]}
theorem div_mid {A D n m N X V:Nat} {K:Exit→St→Prop} (hA:(digs A).length=n+2+m) (hD:(digs D).length=n+2) (hn:n+m<274877906944) {y:AV} (h:DivOk A D n m N X V)
  (hK:∀ s,impE s (stDv1 A D n m N X V 0)→awp Try.prog (.loop c_n_DivMod_l1) s (blockC 2 (seqC Try.prog c_n_DivMod_k4 K))) :
  awp Try.prog c_n_DivMod_k5 {env:=[(0,nD A),(1,nD D),(9,u64v N),(53,y)],sto:=[]} K:=by
 have hN32:=h.N32
 have kt:=trim_sound (m:=.plain) (a:=digsN (n+2+1) V) ok_digsN (by rw[digsN_len]; omega)
 have hVlt:V<B^(n+2+1):=Nat.lt_trans h.Vlt (Nat.pow_lt_pow_right (by decide) (by omega))
 rw[val_digsN_lt hVlt] at kt
 have hVl:=h.Vlen
 have w1:IntKind.i64.wrap ((n:Int)+2+m-(n+2))=(m:Int):=by rw[wrap64]<;>omega
 have w2:IntKind.i64.wrap ((m:Int)+1)=(m:Int)+1:=by rw[wrap64]<;>omega
 have e1:((m:Int)+1).toNat=m+1:=by omega
 have e2:(digsN (n+2+1) V).length=n+2+1:=digsN_len
 have e3:(drows (digsN (n+2+1) V)).length=n+2+1:=by rw[List.length_map,e2]
 simp[c_n_DivMod_k5]
 refine ⟨rfl,?_⟩
 refine shiftedI 1000 (ok_digs A) (by omega) hN32 (by simp) ?_
 simp
 have ks:=shifted_sound (m:=.plain) (bits:=N) (ok_digs D) (by omega) hN32
 rw[val_digs,← h.V_eq,hD] at ks
 refine eCall_i ks (by simp) (by simp) ?_
 simp
 refine eCall_i kt (by simp) (by simp) ?_
 simp[hVl,hA,hD,w1,w2,eMk,e1]
 refine ⟨by omega,by omega,by omega,?_⟩
 rw[val_digs,← h.X_eq]
 have hz:rst X V (m+1)=X:=rst_top h.top
 refine hK _ ?_
 simp[stDv1,hz,smallQ_zero,subE]
theorem div_loop {A D n m N X V:Nat} {K:Exit→St→Prop} (hn:n+m<274877906944) (h:DivOk A D n m N X V)
  (hK:∀ q y,q=76→awp Try.prog c_n_DivMod_k4 {(stDv1 A D n m N X V (m+1)) with env:=(stDv1 A D n m N X V (m+1)).env++[(q,y)]} K) :
  ∀ s,impE s (stDv1 A D n m N X V 0)→awp Try.prog (.loop c_n_DivMod_l1) s (blockC 2 (seqC Try.prog c_n_DivMod_k4 K)):=by
 intro s hs
 refine awp_forW (stDv1 A D n m N X V) (fun _=>True) (m+1) hs trivial (fun k hk _=>?_) (fun _=>?_)
 ·obtain ⟨j,hj⟩:∃ j,m-k=j:=⟨_,rfl⟩
  have hj1:m+1-k=j+1:=by omega
  have hj2:m+1-(k+1)=j:=by omega
  have hj3:m+1-1-k=j:=by omega
  have hlt:=rst_lt (A:=X) (j:=j+1) h.Vlt h.Vpos
  obtain ⟨d1,d2,d3⟩:=rst_digit (A:=X) (j:=j) h.Vpos
  have hstep:=rst_step (A:=X) (V:=V) (j:=j) (L:=n+2+m+1) h.Vlt h.Vpos (by omega)
  have hval:=rst_val (A:=X) (V:=V) (j:=j) (n:=n+2) (L:=n+2+m+1) h.Vlt h.Vpos (by omega)
  have hset:=smallQ_set (n:=m+1) (D:=A/D) (i:=k) hk
  rw[hj3] at hset
  rw[h.q] at d1
  have hql:=smallQ_len (D:=A/D) (show k≤m+1 by omega)
  have hVl:=h.Vlen
  have e:(k:Int)<(m:Int)+1:=by omega
  have w1:IntKind.i64.wrap ((m:Int)-k)=(j:Int):=by rw[wrap64]<;>omega
  have w2:IntKind.i64.wrap ((j:Int)+(n+2))=(j:Int)+(n+2):=by rw[wrap64]<;>omega
  have w3:IntKind.i64.wrap ((j:Int)+(n+2)+1)=(j:Int)+(n+2)+1:=by rw[wrap64]<;>omega
  have w4:IntKind.i64.wrap ((k:Int)+1)=(k:Int)+1:=by rw[wrap64]<;>omega
  have w5:((j:Int)+(n+2)+1).toNat-j=n+3:=by omega
  have ok:DigOk (digsN (n+2+m+1) (rst X V (j+1))) (digs V) j n:=⟨ok_digsN,ok_digs _,hVl,by rw[digsN_len]; omega,by rw[digsN_len]; omega⟩
  simp[c_n_DivMod_l1,stDv1,e,w1,w2,w3,hj1,w5]
  refine ⟨by omega,by omega,rfl,?_⟩
  refine digitI 3000 ok (by simp) h.vtop hval (by rw[val_digs]; exact d3) ?_
  have w6:j<(smallQ (m+1) (A/D) k).length:=by omega
  have w7:(j:Int)<(m:Int)+1:=by omega
  simp only[val_digs,d1,d2,hstep]
  generalize hd:A/D/B^j%B=d at *
  have hset':(drows (smallQ (m+1) (A/D) k)).set j [uv d]=drows (smallQ (m+1) (A/D) (k+1)):=by rw[drows_set,hset]
  simp[w6,w7,splice,hset',w4,hj2,stDv1]
 ·simp[c_n_DivMod_l1,stDv1]
  have:=hK _ (bv false) rfl
  simp[stDv1] at this
  exact this
end Go.Proofs.Ytbgnkodhpbkdoaa

namespace Go.Proofs.Ytbgnkodhpbkdoaa
open Go Go.Am Go.Dig
def stDv2 (Q R n m N Y k:Nat):St :=
 {env:=[(4,.sl 72 1 0 (m+1)),(5,.sl 99 1 0 (n+2)),(9,u64v N),(10,.sl 1011 1 0 (n+2+m+1)),(100,iv ((n:Int)+2)),(101,iv k)],
  sto:=[(72,.arr 1 (drows (digsN (m+1) Q))),(1011,.arr 1 (drows (digsN (n+2+m+1) Y))),(99,.arr 1 (drows (fillN (n+2) k R)))]}
theorem div_digit {R N i:Nat} (hN:N<32):∃ a c d,R*2^N/B^i%B/2^N=a∧(R*2^N/B^(i+1)%B)*2^(32-N)%B=c∧R/B^i%B=d∧a ||| c=d∧a<B∧c<B∧d<B∧(N=0→a=d):=by
 obtain ⟨h1,h2⟩:=shr_digit (X:=R*2^N) (i:=i) hN
 have hP:0<2^N:=Nat.pow_pos (by omega)
 rw[Nat.mul_div_cancel _ hP] at h1
 refine ⟨_,_,_,rfl,rfl,rfl,by rw[h2,← h1],Nat.lt_of_le_of_lt (Nat.div_le_self _ _) (Nat.mod_lt _ B_pos),Nat.mod_lt _ B_pos,Nat.mod_lt _ B_pos,fun h0=>?_⟩
 subst h0
 rw[Nat.pow_zero,Nat.mul_one,Nat.div_one]
theorem or32' {a c d:Nat} (ha:a<B) (hc:c<B) (h:a ||| c=d) (hd:d<B):bitI .or .u32 (a:Int) (c:Int)=(d:Int):=by
 have:=or32 (c:=a) (x:=c) ha hc (by rw[h]; exact hd)
 rw[h] at this
 exact this
theorem div_end {A D n m N X V:Nat} (hn:n+m<274877906944) (hD:(digs D).length=n+2) (h:DivOk A D n m N X V) :
  ∀ q y,q=76→awp Try.prog c_n_DivMod_k4 {(stDv1 A D n m N X V (m+1)) with env:=(stDv1 A D n m N X V (m+1)).env++[(q,y)]} (retW r_n_DivMod (divR A D)):=by
 intro q y hq
 subst hq
 have hN:=h.N32
 have hY:rst X V 0=A%D*2^N:=by rw[rst_zero,h.r]
 have hDlt:D<B^(n+2):=digs_len_le.1 (Nat.le_of_eq hD)
 have hD0:0<D:=by
  rcases Nat.eq_zero_or_pos D with h0 | h0
  ·subst h0; simp[digs_zero] at hD
  ·exact h0
 have hRlt:A%D<B^(n+2):=Nat.lt_trans (Nat.mod_lt _ hD0) hDlt
 have hQlt:A/D<B^(m+1):=by
  rw[← h.q]
  apply Nat.div_lt_of_lt_mul
  have h1:=Nat.lt_mul_div_succ X (pw_pos (m+1))
  have h2:B^(m+1)*(X/B^(m+1)+1)≤B^(m+1)*V:=Nat.mul_le_mul_left _ h.top
  rw[Nat.mul_comm V]
  exact Nat.lt_of_lt_of_le h1 h2
 have w1:((n:Int)+2).toNat=n+2:=by omega
 have kq:=trim_sound (m:=.plain) (a:=digsN (m+1) (A/D)) ok_digsN (by rw[digsN_len]; omega)
 have kr:=trim_sound (m:=.plain) (a:=digsN (n+2) (A%D)) ok_digsN (by rw[digsN_len]; omega)
 rw[val_digsN_lt hQlt] at kq
 rw[val_digsN_lt hRlt] at kr
 have lp:∀ s,impE s (stDv2 (A/D) (A%D) n m N (A%D*2^N) 0)→awp Try.prog (.loop c_n_DivMod_l2) s (blockC 4 (seqC Try.prog c_n_DivMod_k3 (retW r_n_DivMod (divR A D)))):=by
  intro s hs
  refine awp_forW (stDv2 (A/D) (A%D) n m N (A%D*2^N)) (fun _=>True) (n+2) hs trivial (fun i hi _=>?_) (fun _=>?_)
  ·obtain ⟨a,c,d,h1,h2,h3,h4,h5,h6,h7,h8⟩:=div_digit (R:=A%D) (i:=i) hN
   have hL:=digsN_len (n:=n+2+m+1) (x:=A%D*2^N)
   have i1:i<(digsN (n+2+m+1) (A%D*2^N)).length:=by omega
   have i2:i+1<(digsN (n+2+m+1) (A%D*2^N)).length:=by omega
   have g1:=digsN_get i1
   have g2:=digsN_get i2
   have hset:=fillN_set (S:=A%D) hi
   rw[h3] at hset
   have hfl:=fillN_len (n:=n+2) (k:=i) (S:=A%D) (by omega)
   have i3:i<(fillN (n+2) i (A%D)).length:=by omega
   have hor:=or32' h5 h6 h4 h7
   have hmin:min N IntKind.u32.bits=N:=by
    have:IntKind.u32.bits=32:=rfl
    omega
   have hmin2:min (32-N) IntKind.u32.bits=32-N:=by
    have:IntKind.u32.bits=32:=rfl
    omega
   have i4:i+1<n+2+m+1:=by omega
   have s1:∀ y0 a:Nat,y0/2^N=a→(y0:Int).fdiv (2^N)=(a:Int):=fun y0 a h=>by
    rw[show (2:Int)^N=((2^N:Nat):Int) by simp,← Int.ofNat_fdiv,h]
   have s2:∀ y1 c:Nat,y1*2^(32-N)%B=c→IntKind.u32.wrap ((y1:Int)*2^(32-N))=(c:Int):=fun y1 c h=>by
    rw[show (y1:Int)*2^(32-N)=((y1*2^(32-N):Nat):Int) by simp,w32,h]
   have s1':=s1 _ _ h1
   have s2':=s2 _ _ h2
   clear s1 s2 h1 h2
   rw[← g1] at s1'
   rw[← g2] at s2'
   clear g1 g2
   generalize A%D*2^N=Y at *
   generalize A%D=R at *
   generalize hy0:(digsN (n+2+m+1) Y)[i]=y0 at *
   generalize hy1:(digsN (n+2+m+1) Y)[i+1]=y1 at *
   have hset':(drows (fillN (n+2) i R)).set i [uv d]=drows (fillN (n+2) (i+1) R):=by rw[drows_set,hset]
   have e:(i:Int)<(n:Int)+2:=by omega
   have e2:(i:Int)<(n:Int)+2+m+1:=by omega
   have e3:(i:Int)+1<(n:Int)+2+m+1:=by omega
   have e4:((i:Int)+1).toNat=i+1:=by omega
   have e5:(0:Int)≤(i:Int)+1:=by omega
   have w2:IntKind.i64.wrap ((i:Int)+1)=(i:Int)+1:=by rw[wrap64]<;>omega
   have w3:IntKind.u64.wrap ((32:Int)-N)=32-N:=w64' (by omega) (by omega)
   have w4:((32:Int)-N).toNat=32-N:=by omega
   have w5:¬ ((32:Int)-N<0):=by omega
   rcases Nat.eq_zero_or_pos N with hN0 | hN0
   ·have ha:=h8 hN0
    have hN1:¬ 0<N:=by omega
    subst ha
    simp[c_n_DivMod_l2,stDv2,e,e2,hy0,i1,i3,eBin_shr,hmin,s1',hN1,splice,hset',w2]
   ·simp[c_n_DivMod_l2,stDv2,e,e2,e3,e4,e5,hy0,hy1,i1,i2,i3,eBin_shr,eBin_shl,hmin,hmin2,s1',s2',hN0,splice,hset',w2,w3,w4,w5,hor]
  ·have l1:∀ k z,k≤(digsN k z).length:=fun k z=>Nat.le_of_eq digsN_len.symm
   have l2:∀ k z,List.take k (drows (digsN k z))=drows (digsN k z):=fun k z=>List.take_of_length_le (by rw[List.length_map,digsN_len]; exact Nat.le_refl _)
   simp[c_n_DivMod_l2,stDv2,fillN_all,c_n_DivMod_k3,eFreeze,frzE,l1,l2]
   refine eCall_i kq (by simp) (by simp) ?_
   simp
   refine eCall_i kr (by simp) (by simp) ?_
   simp[r_n_DivMod]
   exact AV.imp.refl
 simp[c_n_DivMod_k4,stDv1,smallQ_all,hY,eMk,w1]
 refine ⟨by omega,by omega,by omega,?_⟩
 refine lp _ ?_
 simp[stDv2,fillN_zero,subE]
theorem divMod_sound {m1 m2:Am.Mode} {a c:List Nat} (ha:ok a) (hc:ok c) (hna:a.length<137438953472) (hnc:c.length<137438953472) (f1:stm m1=m1) (f2:stm m2=m2) (hD:val c≠0) :
  SoundCall Try.prog F_n_DivMod [nl m1 a,nl m2 c] (divR (val a) (val c)):=by
 refine div_start ha hc (by omega) (by omega) f1 f2 hD fun n m h1 h2 hle=>?_
 have hla:=digs_digs_norm ha
 have hn:n+m<274877906944:=by omega
 have h:=divOk h2 h1
 exact div_bits (_m:=m) h1 (by omega) fun q y hq=>by
  subst hq
  exact div_mid h2 h1 hn h (div_loop hn h (div_end hn h1 h))
end Go.Proofs.Ytbgnkodhpbkdoaa

namespace Go.Proofs.Ytbgnkodhpbkdoaa
open Go Go.Am Go.Dig
def eu:Nat→Nat→Nat→Nat × Nat
 | a,b,0=>(a,b)
 | a,b,k+1=>eu b (a%b) k
theorem eu_succ:∀ (k a b:Nat),eu a b (k+1)=((eu a b k).2,(eu a b k).1%(eu a b k).2)
 | 0,_,_=>rfl
 | k+1,a,b=>by rw[eu,eu_succ k b (a%b)]; rfl
theorem eu_end:∀ (b a:Nat),∃ N,(∀ k,k<N→(eu a b k).2≠0)∧eu a b N=(Nat.gcd a b,0):=by
 intro b
 induction b using Nat.strongRecOn with
 | ind b ih =>
  intro a
  rcases Nat.eq_zero_or_pos b with h | h
  ·subst h
   exact ⟨0,fun k hk=>absurd hk (Nat.not_lt_zero _),by rw[eu,Nat.gcd_zero_right]⟩
  ·obtain ⟨N,h1,h2⟩:=ih (a%b) (Nat.mod_lt _ h) b
   refine ⟨N+1,fun k hk=>?_,?_⟩
   ·match k with
    | 0=>exact Nat.ne_of_gt h
    | k+1=>exact h1 k (by omega)
   ·rw[eu,h2,Nat.gcd_comm b,← Nat.gcd_rec,Nat.gcd_comm]
theorem eu_lt {M:Nat}:∀ (k a b:Nat),a<M→b<M→(eu a b k).1<M∧(eu a b k).2<M
 | 0,_,_,h1,h2=>⟨h1,h2⟩
 | k+1,a,b,h1,h2=>eu_lt k b (a%b) h2 (Nat.lt_of_le_of_lt (Nat.mod_le _ _) h1)
def stG (p:Nat × Nat):St:={env:=[(0,nD p.1),(1,nD p.2)],sto:=[]}
theorem gcd_sound {m1 m2:Am.Mode} {a c:List Nat} (ha:ok a) (hc:ok c) (hna:a.length<137438953472) (hnc:c.length<137438953472) (f1:stm m1=m1) (f2:stm m2=m2) :
  SoundCall Try.prog F_n_GCD [nl m1 a,nl m2 c] (nD (Nat.gcd (val a) (val c))):=by
 have k1:=add_sound (m1:=m1) (m2:=.plain) (b:=[]) ha ok_nil (by omega) (by simp)
 have k2:=add_sound (m1:=m2) (m2:=.plain) (b:=[]) hc ok_nil (by omega) (by simp)
 obtain ⟨N,h1,h2⟩:=eu_end (val c) (val a)
 obtain ⟨L,hL⟩:∃ L,L=137438953471:=⟨_,rfl⟩
 have hL1:val a<B^L:=val_lt_of ha (by omega)
 have hL2:val c<B^L:=val_lt_of hc (by omega)
 have hb:=fun k=>eu_lt k (val a) (val c) hL1 hL2
 generalize hM:B^L=M at *
 have hlen:∀ x,x<M→(digs x).length<137438953472:=fun x hx=>by
  rw[← hM] at hx
  exact Nat.lt_of_le_of_lt (digs_len_le.2 hx) (by omega)
 clear hM
 have v0:val []=0:=rfl
 rw[v0,Nat.add_zero] at k1 k2
 generalize val a=A at *
 generalize val c=D at *
 refine sound' t_n_GCD (by simp) ?_
 simp[c_n_GCD]
 refine eCall_i (imp_arg2 k1 (AV.imp_nil (sz:=0) rfl)) (by simp[f1]) (by simp) ?_
 simp
 refine eCall_i (imp_arg2 k2 (AV.imp_nil (sz:=0) rfl)) (by simp[f2]) (by simp) ?_
 simp
 refine awp_forW (fun k=>stG (eu A D k)) (fun _=>True) N (by simp[stG,eu]) trivial (fun k hk _=>?_) (fun _=>?_)
 ·have hne:=h1 k hk
  obtain ⟨b1,b2⟩:=hb k
  have b1':=hlen _ b1
  have b2':=hlen _ b2
  have hs:=eu_succ k A D
  obtain ⟨x,hx⟩:∃ x,(eu A D k).1=x:=⟨_,rfl⟩
  obtain ⟨y,hy⟩:∃ y,(eu A D k).2=y:=⟨_,rfl⟩
  rw[hx,hy] at hs
  rw[hx] at b1'
  rw[hy] at b2' hne
  have kd:=divMod_sound (m1:=.plain) (m2:=.plain) (ok_digs x) (ok_digs y) b1' b2' rfl rfl (by rw[val_digs]; exact hne)
  rw[val_digs,val_digs] at kd
  have hl0:0<(digs y).length:=by
   rcases Nat.eq_zero_or_pos (digs y).length with h | h
   ·rw[List.length_eq_zero_iff,digs_eq_nil] at h; exact absurd h hne
   ·exact h
  simp[c_n_GCD_l0,stG,hl0,hx,hy]
  refine eCall_i kd (by simp) (by simp) ?_
  simp[hs]
 ·simp only[h2]
  simp[c_n_GCD_l0,c_n_GCD_k1,r_n_GCD,stG,digs_zero]
end Go.Proofs.Ytbgnkodhpbkdoaa

namespace Go.Proofs.Ytbgnkodhpbkdoaa
open Go Go.Am Go.Dig
theorem digit_ref {m:Am.Mode} {a:List Nat} {i:Nat} (ha:ok a) (_hn:a.length<1099511627776) (_hi:i<1099511627776):SoundCall Try.prog F_q_digit [nl m a,iv i] (u64v (a.getD i 0)):=by
 refine sound' t_q_digit (by simp) ?_
 by_cases h:i<a.length
 ·have hg:a.getD i 0=a[i]:=by simp[h]
  have hB:=ok_get ha h
  rw[hg]
  generalize ha2:a[i]=x at *
  rw[B_eq] at hB
  have w:IntKind.u64.wrap (x:Int)=x:=w64 (by omega)
  have h':(i:Int)<a.length:=by omega
  simp[c_q_digit,h,h',ha2,w,r_q_digit]
 ·have hg:a.getD i 0=0:=by simp[List.getD,List.getElem?_eq_none (Nat.le_of_not_lt h)]
  have h':¬ (i:Int)<a.length:=by omega
  rw[hg]
  simp[c_q_digit,h',r_q_digit]
theorem valid_ref {m:Am.Mode} {a:List Nat} (ha:ok a) (hn:a.length<1099511627776):SoundCall Try.prog F_q_Valid [nl m a] (bv (decide (a=digs (val a)))):=by
 refine sound' t_q_Valid (by simp) ?_
 rcases Nat.eq_zero_or_pos a.length with h | h
 ·rw[List.length_eq_zero_iff] at h
  subst h
  simp[c_q_Valid,r_q_Valid,val,digs_zero]
 ·obtain ⟨k,hk⟩:∃ k,a.length=k+1:=⟨a.length-1,by omega⟩
  have hl:(a.length:Int)=(k:Int)+1:=by omega
  have w:IntKind.i64.wrap (k:Int)=(k:Int):=by rw[wrap64]<;>omega
  have hkl:k<a.length:=by omega
  have hne:¬ a.length=0:=by omega
  have hnil:¬ a=[]:=fun e=>by subst e; simp at h
  have hv:(a=digs (val a))↔a[k]≠0:=by
   constructor
   ·intro e h0
    have h1:=digs_last (x:=val a) (by rw[← e]; exact h)
    simp only[← e,hk,Nat.add_sub_cancel] at h1
    exact h1 h0
   ·intro h0
    refine (digs_of ha fun _=>?_).symm
    simp only[hk,Nat.add_sub_cancel]
    exact h0
  have hd:decide (a=digs (val a))=!decide (a[k]=0):=by
   by_cases h0:a[k]=0
   ·have:¬ a=digs (val a):=fun e=>hv.1 e h0
    simp[this,h0]
   ·have:a=digs (val a):=hv.2 h0
    rw[decide_eq_true this,decide_eq_false h0]; rfl
  rw[hd]
  generalize ha2:a[k]=x at *
  have hk0:¬ ((k:Int)+1=0):=by omega
  have p1:(k:Int)<(k:Int)+1:=by omega
  simp[c_q_Valid,r_q_Valid,hl,w,hkl,ha2,hk0,p1]
def stTR (m:Am.Mode) (a:List Nat) (k:Nat):St:={env:=[(0,nl (if k=0 then m else .plain) (a.take (a.length-k)))],sto:=[]}
theorem trim_ref {m:Am.Mode} {a:List Nat} (ha:ok a) (hn:a.length<1099511627776):SoundCall Try.prog F_q_trim [nl m a] (nD (val a)):=by
 obtain ⟨h1,h2,h3,h4⟩:=len_facts ha
 refine soundW' t_q_trim (by simp) ?_
 simp[c_q_trim]
 generalize hT:(digs (val a)).length=T at h1 h2 h3 h4
 refine awp_forW (stTR m a) (fun _=>True) (a.length-T) (by simp[stTR]) trivial (fun k hk _=>?_) (fun _=>?_)
 ·obtain ⟨c,hc⟩:∃ c,a.take (a.length-k)=c:=⟨_,rfl⟩
  obtain ⟨L,hL⟩:∃ L,a.length-k=L+1:=⟨a.length-k-1,by omega⟩
  have hL2:a.length-(k+1)=L:=by omega
  have hcl:c.length=L+1:=by rw[← hc]; simp; omega
  have hLl:L<c.length:=by omega
  have hz:c[L]=0:=by
   have:=h2 L (by omega) (by omega)
   subst hc
   simpa using this
  have hc2:a.take L=c.take L:=by rw[← hc,List.take_take]; congr 1; omega
  have hcz:(c.length:Int)=(L:Int)+1:=by omega
  have w:IntKind.i64.wrap (L:Int)=(L:Int):=by rw[wrap64]<;>omega
  have hg:∃ r,drows (c.take L)=r:=⟨_,rfl⟩
  have hst:stTR m a (k+1)={env:=[(0,.list 1 .plain (List.take L (drows c)))],sto:=[]}:=by
   rw[stTR,hL2,hc2]; simp[List.map_take]
  obtain ⟨m',hst0⟩:∃ m',stTR m a k={env:=[(0,nl m' c)],sto:=[]}:=⟨_,by rw[stTR,hc]⟩
  have p3:(L:Int)<(L:Int)+1:=by omega
  have p1:(0:Int)<(L:Int)+1:=by omega
  have p2:(L:Int)≤(L:Int)+1:=by omega
  rw[hst0]
  simp[c_q_trim_l0,hcl,w,hz,hst,p1,p2,p3]
 ·have e:a.length-(a.length-T)=T:=by omega
  obtain ⟨m',hst⟩:∃ m',stTR m a (a.length-T)={env:=[(0,nl m' (digs (val a)))],sto:=[]}:=⟨_,by rw[stTR,e,h4]⟩
  rw[hst]
  clear hst
  generalize hcE:digs (val a)=c at *
  rcases T with _ | L
  ·have hc0:c=[]:=List.length_eq_zero_iff.1 hT
   subst hc0
   simp[c_q_trim_l0,c_q_trim_k1,r_q_trim]
   rw[nD,hcE]
   exact AV.imp.refl
  ·have hLl:L<c.length:=by omega
   have hcz:(c.length:Int)=(L:Int)+1:=by omega
   have w:IntKind.i64.wrap (L:Int)=(L:Int):=by rw[wrap64]<;>omega
   have hz:¬ c[L]=0:=by
    have:=digs_last (x:=val a) (by rw[hcE]; omega)
    simp only[hcE,hT,Nat.add_sub_cancel] at this
    exact this
   have p1:(0:Int)<(L:Int)+1:=by omega
   simp[c_q_trim_l0,hT,w,hz,p1,c_q_trim_k1,r_q_trim]
   rw[nD,hcE]
   exact ⟨by omega,by omega,by omega,AV.imp.refl⟩
theorem fromUint_ref {x:Nat} (h:x<18446744073709551616):SoundCall Try.prog F_q_FromUint [u64v x] (nD x):=by
 have hq2:x/B<B:=by rw[B_eq]; omega
 have e1:=Nat.mod_add_div x B
 have hm2:x%B<B:=Nat.mod_lt _ B_pos
 have t1:(x:Int).tmod 4294967296=((x%B:Nat):Int):=by
  rw[B_eq,show (4294967296:Int)=((4294967296:Nat):Int) from rfl,← Int.ofNat_tmod]
 have t2:IntKind.u64.wrap ((x:Int)/4294967296)=((x/B:Nat):Int):=by
  rw[show (x:Int)/4294967296=((x/B:Nat):Int) by rw[B_eq]; omega]
  exact w64 (Nat.lt_of_le_of_lt (Nat.div_le_self _ _) h)
 obtain ⟨d0,h0⟩:∃ d,x%B=d:=⟨_,rfl⟩
 obtain ⟨d1,h1⟩:∃ q,x/B=q:=⟨_,rfl⟩
 rw[h0] at t1 e1 hm2
 rw[h1] at t2 e1 hq2
 have hok:ok [d0,d1]:=by
  intro d hd
  simp at hd
  rcases hd with rfl | rfl
  ·exact hm2
  ·exact hq2
 have hv:val [d0,d1]=x:=by
  simp only[val,Nat.mul_zero,Nat.add_zero]
  exact e1
 have key:=trim_ref (m:=.full) (a:=[d0,d1]) hok (by simp)
 rw[hv] at key
 rw[B_eq] at hm2 hq2
 have f1:IntKind.u32.wrap (d0:Int)=d0:=IntWalk.u32_in _ (by omega)
 have f2:IntKind.u32.wrap (d1:Int)=d1:=IntWalk.u32_in _ (by omega)
 refine sound' t_q_FromUint (by simp) ?_
 simp[c_q_FromUint,eBin_quo,eBin_rem,t1,t2,f1,f2,rowsA]
 refine eCall_i key (by simp) (by simp) ?_
 simp[r_q_FromUint]
end Go.Proofs.Ytbgnkodhpbkdoaa

namespace Go.Proofs.Ytbgnkodhpbkdoaa
open Go Go.Am Go.Dig
theorem getD_val {a:List Nat} (ha:ok a) (i:Nat):a.getD i 0=val a/B^i%B:=by
 rcases Nat.lt_or_ge i a.length with h | h
 ·rw[← get_val ha h]; simp[h]
 ·have h1:val a<B^i:=val_lt_of ha h
  rw[Nat.div_eq_of_lt h1,Nat.zero_mod]
  simp[List.getD,List.getElem?_eq_none h]
theorem split_div (x j:Nat):x/B^j=B*(x/B^(j+1))+x/B^j%B:=by
 rw[Nat.pow_succ,← Nat.div_div_eq_div_mul]
 exact (Nat.div_add_mod _ _).symm
theorem cmp_step {x y j:Nat} (h:x/B^(j+1)=y/B^(j+1)) (hlt:x/B^j%B<y/B^j%B):x<y:=by
 have h1:=split_div x j
 have h2:=split_div y j
 rw[h] at h1
 apply Nat.lt_of_not_le
 intro hle
 have h3:y/B^j≤x/B^j:=Nat.div_le_div_right hle
 generalize x/B^j%B=p at *
 generalize y/B^j%B=q at *
 omega
theorem cmp_eq {x y j:Nat} (h:x/B^(j+1)=y/B^(j+1)) (he:x/B^j%B=y/B^j%B):x/B^j=y/B^j:=by
 rw[split_div x j,split_div y j,h,he]
def stCR (m1 m2:Am.Mode) (a b:List Nat) (M k:Nat):St:={env:=[(0,nl m1 a),(1,nl m2 b),(5,iv ((M:Int)-1-k))],sto:=[]}
theorem cmp_ref {m1 m2:Am.Mode} {a b:List Nat} (ha:ok a) (hb:ok b) (hna:a.length<1099511627776) (hnb:b.length<1099511627776) (f1:stm m1=m1) (f2:stm m2=m2) :
  SoundCall Try.prog F_q_Cmp [nl m1 a,nl m2 b] (iv (cmpN (val a) (val b))):=by
 refine sound' t_q_Cmp (by simp) ?_
 obtain ⟨M,hM⟩:∃ M,max a.length b.length=M:=⟨_,rfl⟩
 have hMz:max (a.length:Int) (b.length:Int)=(M:Int):=by omega
 have w0:IntKind.i64.wrap ((M:Int)-1)=(M:Int)-1:=by rw[wrap64]<;>omega
 simp[c_q_Cmp,hMz,w0]
 refine awp_forW (stCR m1 m2 a b M) (fun k=>val a/B^(M-k)=val b/B^(M-k)) M (by simp[stCR]) ?_ (fun k hk hi=>?_) (fun hi=>?_)
 ·rw[Nat.sub_zero,Nat.div_eq_of_lt (val_lt_of ha (by omega)),Nat.div_eq_of_lt (val_lt_of hb (by omega))]
 ·obtain ⟨j,hj⟩:∃ j,M-1-k=j:=⟨_,rfl⟩
  have hj2:M-k=j+1:=by omega
  have hj3:M-(k+1)=j:=by omega
  have hjz:(M:Int)-1-k=(j:Int):=by omega
  have d1:=digit_ref (m:=m1) (i:=j) ha hna (by omega)
  have d2:=digit_ref (m:=m2) (i:=j) hb hnb (by omega)
  rw[hj2] at hi
  rw[getD_val ha] at d1
  rw[getD_val hb] at d2
  have c1:=fun h=>cmp_step (x:=val a) (y:=val b) (j:=j) hi h
  have c2:=fun h=>cmp_step (x:=val b) (y:=val a) (j:=j) hi.symm h
  have c3:=fun h=>cmp_eq (x:=val a) (y:=val b) (j:=j) hi h
  generalize val a/B^j%B=p at *
  generalize val b/B^j%B=q at *
  have e0:(0:Int)≤(j:Int):=by omega
  have w1:IntKind.i64.wrap ((j:Int)-1)=(j:Int)-1:=by rw[wrap64]<;>omega
  have hst:stCR m1 m2 a b M (k+1)={env:=[(0,nl m1 a),(1,nl m2 b),(5,iv ((j:Int)-1))],sto:=[]}:=by
   rw[stCR,show (M:Int)-1-((k+1:Nat):Int)=(j:Int)-1 by omega]
  rw[stCR,hjz]
  simp[c_q_Cmp_l0]
  refine eCall_i d1 (by simp[f1]) (by simp) ?_
  simp
  refine eCall_i d2 (by simp[f2]) (by simp) ?_
  by_cases h:p<q
  ·have hc:cmpN (val a) (val b)=-1:=by simp[cmpN,c1 h]
   simp[h,r_q_Cmp,hc]
  ·simp[h]
   refine eCall_i d1 (by simp[f1]) (by simp) ?_
   simp
   refine eCall_i d2 (by simp[f2]) (by simp) ?_
   by_cases h2:q<p
   ·have hc:cmpN (val a) (val b)=1:=by
     have:¬ val a<val b:=by have:=c2 h2; omega
     simp[cmpN,c2 h2,this]
    simp[h2,r_q_Cmp,hc]
   ·have he:=c3 (by omega)
    simp[h2,w1,hst,hj3,he]
 ·have hxy:val a=val b:=by simpa using hi
  have hc:cmpN (val a) (val b)=0:=by simp[cmpN,hxy]
  have e0:¬ (0:Int)≤(M:Int)-1-M:=by omega
  have e1:¬ (M:Int)≤(M:Int)-1:=by omega
  simp[c_q_Cmp_l0,stCR,e1,c_q_Cmp_k1,r_q_Cmp,hc]
end Go.Proofs.Ytbgnkodhpbkdoaa

namespace Go.Proofs.Ytbgnkodhpbkdoaa
open Go Go.Am Go.Dig
def cry (x y k:Nat):Nat:=(x%B^k+y%B^k)/B^k
theorem cry_zero {x y:Nat}:cry x y 0=0:=by simp[cry,Nat.mod_one]
theorem cry_le {x y k:Nat}:cry x y k≤1:=by
 unfold cry
 have h1:=Nat.mod_lt x (pw_pos k)
 have h2:=Nat.mod_lt y (pw_pos k)
 have:(x%B^k+y%B^k)/B^k<2:=Nat.div_lt_of_lt_mul (by omega)
 omega
theorem add_digit {x y k:Nat}:(x+y)/B^k%B=(x/B^k%B+y/B^k%B+cry x y k)%B∧cry x y (k+1)=(x/B^k%B+y/B^k%B+cry x y k)/B:=by
 have m1:x%B^(k+1)=x%B^k+B^k*(x/B^k%B):=by rw[Nat.pow_succ,Nat.mod_mul]
 have m2:y%B^(k+1)=y%B^k+B^k*(y/B^k%B):=by rw[Nat.pow_succ,Nat.mod_mul]
 have d1:=Nat.mod_add_div x (B^(k+1))
 have d2:=Nat.mod_add_div y (B^(k+1))
 have hs:x+y=(x%B^k+y%B^k)+B^k*(x/B^k%B+y/B^k%B)+B^(k+1)*(x/B^(k+1)+y/B^(k+1)):=by
  rw[Nat.mul_add,Nat.mul_add]
  omega
 constructor
 ·rw[hs,col_digit]
  unfold cry
  congr 1
  omega
 ·unfold cry
  rw[m1,m2,show x%B^k+B^k*(x/B^k%B)+(y%B^k+B^k*(y/B^k%B))=(x%B^k+y%B^k)+B^k*(x/B^k%B+y/B^k%B) by rw[Nat.mul_add]; omega,col_carry]
  congr 1
  omega
theorem dg_stm {m:Am.Mode} {l:Nat} {a:List Nat} (h:stm m=m):dg l (nl m a)=nl m a:=by
 cases m with
 | plain=>simp
 | full=>simp
 | own d=>simp at h
def stAR (m1 m2:Am.Mode) (a b:List Nat) (k:Nat):St :=
 {env:=[(0,nl m1 a),(1,nl m2 b),(5,appV 1 32 (drows (digsN k (val a+val b)))),(6,u64v (cry (val a) (val b) k)),(7,iv k)],sto:=[]}
theorem add_ref {m1 m2:Am.Mode} {a b:List Nat} (ha:ok a) (hb:ok b) (hna:a.length<1099511627775) (hnb:b.length<1099511627775) (f1:stm m1=m1) (f2:stm m2=m2) :
  SoundCall Try.prog F_q_Add [nl m1 a,nl m2 b] (nD (val a+val b)):=by
 refine sound' t_q_Add (by simp) ?_
 obtain ⟨M,hM⟩:∃ M,max a.length b.length=M:=⟨_,rfl⟩
 have hMz:max (a.length:Int) (b.length:Int)=(M:Int):=by omega
 have hxM:val a<B^M:=val_lt_of ha (by omega)
 have hyM:val b<B^M:=val_lt_of hb (by omega)
 simp[c_q_Add]
 refine awp_forW (stAR m1 m2 a b) (fun _=>True) (M+1) (by simp[stAR,cry_zero,digsN]) trivial (fun k hk _=>?_) (fun _=>?_)
 ·have d1:=digit_ref (m:=m1) (i:=k) ha (by omega) (by omega)
  have d2:=digit_ref (m:=m2) (i:=k) hb (by omega) (by omega)
  rw[getD_val ha] at d1
  rw[getD_val hb] at d2
  obtain ⟨g1,g2⟩:=add_digit (x:=val a) (y:=val b) (k:=k)
  have hsucc:=digsN_succ (n:=k) (x:=val a+val b)
  have hpB:val a/B^k%B<B:=Nat.mod_lt _ B_pos
  have hqB:val b/B^k%B<B:=Nat.mod_lt _ B_pos
  have hc:=cry_le (x:=val a) (y:=val b) (k:=k)
  have hdl:=digsN_len (n:=k) (x:=val a+val b)
  rw[g1] at hsucc
  have hst:stAR m1 m2 a b (k+1)={env:=[(0,nl m1 a),(1,nl m2 b),(5,appV 1 32 (drows (digsN (k+1) (val a+val b)))),(6,u64v (cry (val a) (val b) (k+1))),(7,iv ((k:Int)+1))],sto:=[]}:=by
   rw[stAR]; rfl
  rw[hsucc,g2] at hst
  rw[stAR]
  clear g1 g2 hsucc
  generalize val a/B^k%B=p at *
  generalize val b/B^k%B=q at *
  generalize cry (val a) (val b) k=c at *
  generalize digsN k (val a+val b)=D at *
  obtain ⟨t,ht⟩:∃ t,p+q+c=t:=⟨_,rfl⟩
  obtain ⟨d,hd⟩:∃ d,t%B=d:=⟨_,rfl⟩
  obtain ⟨e,he⟩:∃ e,t/B=e:=⟨_,rfl⟩
  rw[ht,hd,he] at hst
  have hdB:d<B:=by rw[← hd]; exact Nat.mod_lt _ B_pos
  have heB:e≤t:=by rw[← he]; exact Nat.div_le_self _ _
  rw[B_eq] at hpB hqB hdB
  have t1:(t:Int).tmod 4294967296=(d:Int):=by
   rw[← hd,B_eq,show (4294967296:Int)=((4294967296:Nat):Int) from rfl,← Int.ofNat_tmod]
  have t2:IntKind.u64.wrap ((t:Int)/4294967296)=(e:Int):=by
   rw[show (t:Int)/4294967296=(e:Int) by rw[← he,B_eq]; omega]
   exact w64 (by omega)
  clear hd he
  have w1:IntKind.u64.wrap ((p:Int)+q)=(p:Int)+q:=w64' (by omega) (by omega)
  have w2:IntKind.u64.wrap ((p:Int)+q+c)=(t:Int):=by rw[w64']<;>omega
  have w3:IntKind.u32.wrap (d:Int)=d:=IntWalk.u32_in _ (by omega)
  have w4:IntKind.i64.wrap ((k:Int)+1)=(k:Int)+1:=wrap64 (by omega) (by omega)
  have hkM:(k:Int)≤(M:Int):=by omega
  simp[c_q_Add_l0,hMz,hkM]
  refine eCall_i d1 (by simp[f1]) (by simp) ?_
  simp
  refine eCall_i d2 (by simp[f2]) (by simp) ?_
  simp[w1,w2,eBin_quo,eBin_rem,t1,t2,w3,w4,hdl,hst,dg_stm f1,dg_stm f2]
  omega
 ·have hlt:val a+val b<B^(M+1):=by
   rw[Nat.pow_succ]
   have:B^M*2≤B^M*B:=Nat.mul_le_mul_left _ (by decide)
   omega
  have kt:=trim_ref (m:=.plain) (a:=digsN (M+1) (val a+val b)) ok_digsN (by rw[digsN_len]; omega)
  rw[val_digsN_lt hlt] at kt
  have hne:¬ digsN (M+1) (val a+val b)=[]:=fun h=>by
   have:=congrArg List.length h
   rw[digsN_len] at this
   simp at this
  have hkM:¬ (M:Int)+1≤(M:Int):=by omega
  simp[c_q_Add_l0,stAR,hMz,hkM,c_q_Add_k1,r_q_Add]
  refine eCall_i kt (by simp[hne]) (.inl rfl) ?_
  simp
end Go.Proofs.Ytbgnkodhpbkdoaa

namespace Go.Proofs.Ytbgnkodhpbkdoaa
open Go Go.Am Go.Dig
theorem imp_arg1 {f:FuncId} {x x' r:AV} (h:SoundCall Try.prog f [x'] r) (hy:AV.imp x x'):SoundCall Try.prog f [x] r:=fun I vs w h1 h2 h3 =>
 h I vs w h1 h2 fun i a hi=>by
  match i,hi with
  | 0,hi=>simp at hi; subst hi; exact hy _ _ _ (h3 0 x rfl)
  | i+1,hi=>simp at hi
theorem sub_ref_digit {x y k p q c:Nat} (h:y≤x) (hp:x/B^k%B=p) (hq:y/B^k%B=q) (hc:bor x y k=c) (_hpB:p<B) (_hqB:q<B) (hc1:c≤1) :
  ∃ s,4294967296+p-q-c=s∧s<8589934592∧q+c≤4294967296+p∧(x-y)/B^k%B=s%B∧bor x y (k+1)=1-s/B∧s/B≤1:=by
 have h1:=sub_digit (k:=k) h
 have h2:=bor_succ (x:=x) (y:=y) (k:=k)
 rw[hp,hq,hc] at h1 h2
 have hdB:(x-y)/B^k%B<B:=Nat.mod_lt _ B_pos
 generalize (x-y)/B^k%B=d at *
 rw[B_eq] at *
 refine ⟨_,rfl,by omega,by omega,by omega,?_,by omega⟩
 rw[h2]
 split<;>omega
def stSR (m1 m2:Am.Mode) (a b:List Nat) (k:Nat):St :=
 {env:=[(0,nl m1 a),(1,nl m2 b),(6,appV 1 35 (drows (digsN k (val a-val b)))),(7,u64v (bor (val a) (val b) k)),(8,iv k)],sto:=[]}
theorem sub_ref {m1 m2:Am.Mode} {a b:List Nat} (ha:ok a) (hb:ok b) (hna:a.length<1099511627775) (hnb:b.length<1099511627775) (f1:stm m1=m1) (f2:stm m2=m2) :
  SoundCall Try.prog F_q_Sub [nl m1 a,nl m2 b] (.tuple [nD (val a-val b),bv (decide (val b≤val a))]):=by
 have kc:=cmp_ref (m1:=m1) (m2:=m2) ha hb (by omega) (by omega) f1 f2
 refine soundW' t_q_Sub (by simp) ?_
 simp[c_q_Sub]
 refine eCall_i kc (by simp[f1,f2]) (by simp) ?_
 by_cases hlt:val a<val b
 ·have hc1:cmpN (val a) (val b)=-1:=by simp[cmpN,hlt]
  have hd:decide (val b≤val a)=false:=by simp; omega
  have h0:val a-val b=0:=by omega
  simp[hc1,r_q_Sub]
  rw[hd,h0]
  exact AV.imp_tuple2 small_zero
 ·have hc1:¬ cmpN (val a) (val b)<0:=by simp only[cmpN,if_neg hlt]; split<;>omega
  have hle:val b≤val a:=by omega
  have hd:decide (val b≤val a)=true:=by simp[hle]
  rw[hd]
  simp[hc1]
  refine awp_forW (stSR m1 m2 a b) (fun _=>True) a.length (by simp[stSR,bor_zero,digsN]) trivial (fun k hk _=>?_) (fun _=>?_)
  ·have d1:=digit_ref (m:=m1) (i:=k) ha (by omega) (by omega)
   have d2:=digit_ref (m:=m2) (i:=k) hb (by omega) (by omega)
   rw[getD_val ha] at d1
   rw[getD_val hb] at d2
   have hpB:val a/B^k%B<B:=Nat.mod_lt _ B_pos
   have hqB:val b/B^k%B<B:=Nat.mod_lt _ B_pos
   have hc:=bor_le (x:=val a) (y:=val b) (k:=k)
   obtain ⟨s,g0,gs,gle,g1,g2,g3⟩:=sub_ref_digit (k:=k) hle rfl rfl rfl hpB hqB hc
   have hsucc:=digsN_succ (n:=k) (x:=val a-val b)
   have hdl:=digsN_len (n:=k) (x:=val a-val b)
   rw[g1] at hsucc
   have hst:stSR m1 m2 a b (k+1)={env:=[(0,nl m1 a),(1,nl m2 b),(6,appV 1 35 (drows (digsN (k+1) (val a-val b)))),(7,u64v (bor (val a) (val b) (k+1))),(8,iv ((k:Int)+1))],sto:=[]}:=by
    rw[stSR]; rfl
   rw[hsucc,g2] at hst
   rw[stSR]
   clear g1 g2 hsucc
   generalize val a/B^k%B=p at *
   generalize val b/B^k%B=q at *
   generalize bor (val a) (val b) k=c at *
   generalize digsN k (val a-val b)=D at *
   obtain ⟨d,hd⟩:∃ d,s%B=d:=⟨_,rfl⟩
   obtain ⟨e,he⟩:∃ e,s/B=e:=⟨_,rfl⟩
   rw[hd,he] at hst
   rw[he] at g3
   have hdB:d<B:=by rw[← hd]; exact Nat.mod_lt _ B_pos
   rw[B_eq] at hpB hqB hdB
   have t1:(s:Int).tmod 4294967296=(d:Int):=by
    rw[← hd,B_eq,show (4294967296:Int)=((4294967296:Nat):Int) from rfl,← Int.ofNat_tmod]
   have t2:IntKind.u64.wrap ((s:Int)/4294967296)=(e:Int):=by
    rw[show (s:Int)/4294967296=(e:Int) by rw[← he,B_eq]; omega]
    exact w64 (by omega)
   clear hd he
   have w1:IntKind.u64.wrap ((4294967296:Int)+p)=(4294967296:Int)+p:=w64' (by omega) (by omega)
   have w2:IntKind.u64.wrap ((4294967296:Int)+p-q)=(4294967296:Int)+p-q:=w64' (by omega) (by omega)
   have w2':IntKind.u64.wrap ((4294967296:Int)+p-q-c)=(s:Int):=by rw[w64']<;>omega
   have w3:IntKind.u32.wrap (d:Int)=d:=IntWalk.u32_in _ (by omega)
   have w5:IntKind.u64.wrap (1-(e:Int))=((1-e:Nat):Int):=by rw[w64']<;>omega
   have w4:IntKind.i64.wrap ((k:Int)+1)=(k:Int)+1:=wrap64 (by omega) (by omega)
   have hkM:(k:Int)<(a.length:Int):=by omega
   simp[c_q_Sub_l0,hkM]
   refine eCall_i d1 (by simp[f1]) (by simp) ?_
   simp[w1]
   refine eCall_i d2 (by simp[f2]) (by simp) ?_
   simp[w2,w2',w5,eBin_quo,eBin_rem,t1,t2,w3,w4,hdl,hst,dg_stm f1,dg_stm f2]
   omega
  ·have hlt2:val a-val b<B^a.length:=Nat.lt_of_le_of_lt (Nat.sub_le _ _) (val_lt ha)
   have kt:=trim_ref (m:=.plain) (a:=digsN a.length (val a-val b)) ok_digsN (by rw[digsN_len]; omega)
   rw[val_digsN_lt hlt2] at kt
   simp[c_q_Sub_l0,stSR,c_q_Sub_k1,r_q_Sub]
   refine eCall_i (imp_arg1 kt imp_outV) (by simp) (.inl rfl) ?_
   simp
   exact AV.imp.refl
end Go.Proofs.Ytbgnkodhpbkdoaa

namespace Go.Proofs.Ytbgnkodhpbkdoaa
open Go Go.Am Go.Dig
def cs (x d k:Nat):Nat:=x%B^k*d/B^k
theorem cs_zero {x d:Nat}:cs x d 0=0:=by simp[cs,Nat.mod_one]
theorem cs_lt {x d k:Nat} (hd:d<B):cs x d k<B:=by
 unfold cs
 apply Nat.div_lt_of_lt_mul
 have h1:=Nat.mod_lt x (pw_pos k)
 exact Nat.mul_lt_mul_of_lt_of_lt h1 hd
theorem scale_digit {x d k:Nat}:x*d/B^k%B=(x/B^k%B*d+cs x d k)%B∧cs x d (k+1)=(x/B^k%B*d+cs x d k)/B:=by
 have m1:x%B^(k+1)=x%B^k+B^k*(x/B^k%B):=by rw[Nat.pow_succ,Nat.mod_mul]
 have d1:=Nat.mod_add_div x (B^(k+1))
 have hs:x*d=(x%B^k*d)+B^k*(x/B^k%B*d)+B^(k+1)*(x/B^(k+1)*d):=by
  have h:x*d=(x%B^k+B^k*(x/B^k%B)+B^(k+1)*(x/B^(k+1)))*d:=by rw[← m1,d1]
  rw[h,Nat.add_mul,Nat.add_mul,Nat.mul_assoc,Nat.mul_assoc]
 constructor
 ·rw[hs,col_digit]
  unfold cs
  congr 1
  omega
 ·unfold cs
  rw[m1,Nat.add_mul,Nat.mul_assoc,col_carry]
  congr 1
  omega
def stSc (m1:Am.Mode) (a:List Nat) (d k:Nat):St :=
 {env:=[(0,nl m1 a),(1,u64v d),(5,appV 1 27 (drows (digsN k (val a*d)))),(6,u64v (cs (val a) d k)),(7,iv k)],sto:=[]}
theorem scale_ref {m1:Am.Mode} {a:List Nat} {d:Nat} (ha:ok a) (hna:a.length<1099511627775) (hd:d<B) (f1:stm m1=m1) :
  SoundCall Try.prog F_q_scale [nl m1 a,u64v d] (nD (val a*d)):=by
 refine sound' t_q_scale (by simp) ?_
 simp[c_q_scale]
 refine awp_forW (stSc m1 a d) (fun _=>True) (a.length+1) (by simp[stSc,cs_zero,digsN]) trivial (fun k hk _=>?_) (fun _=>?_)
 ·have d1:=digit_ref (m:=m1) (i:=k) ha (by omega) (by omega)
  rw[getD_val ha] at d1
  obtain ⟨g1,g2⟩:=scale_digit (x:=val a) (d:=d) (k:=k)
  have hsucc:=digsN_succ (n:=k) (x:=val a*d)
  have hpB:val a/B^k%B<B:=Nat.mod_lt _ B_pos
  have hc:=cs_lt (x:=val a) (k:=k) hd
  have hdl:=digsN_len (n:=k) (x:=val a*d)
  rw[g1] at hsucc
  have hst:stSc m1 a d (k+1)={env:=[(0,nl m1 a),(1,u64v d),(5,appV 1 27 (drows (digsN (k+1) (val a*d)))),(6,u64v (cs (val a) d (k+1))),(7,iv ((k:Int)+1))],sto:=[]}:=by
   rw[stSc]; rfl
  rw[hsucc,g2] at hst
  rw[stSc]
  clear g1 g2 hsucc
  generalize val a/B^k%B=p at *
  generalize cs (val a) d k=c at *
  generalize digsN k (val a*d)=D at *
  have hm:=mul_bound hpB hd hc B_pos
  obtain ⟨pd,hpd⟩:∃ pd,p*d=pd:=⟨_,rfl⟩
  rw[hpd] at hst hm
  obtain ⟨t,ht⟩:∃ t,pd+c=t:=⟨_,rfl⟩
  obtain ⟨y,hy⟩:∃ y,t%B=y:=⟨_,rfl⟩
  obtain ⟨e,he⟩:∃ e,t/B=e:=⟨_,rfl⟩
  rw[ht,hy,he] at hst
  have hBB:B*B=18446744073709551616:=by decide
  rw[hBB] at hm
  have hyB:y<B:=by rw[← hy]; exact Nat.mod_lt _ B_pos
  have heB:e≤t:=by rw[← he]; exact Nat.div_le_self _ _
  rw[B_eq] at hpB hyB
  have t1:(t:Int).tmod 4294967296=(y:Int):=by
   rw[← hy,B_eq,show (4294967296:Int)=((4294967296:Nat):Int) from rfl,← Int.ofNat_tmod]
  have t2:IntKind.u64.wrap ((t:Int)/4294967296)=(e:Int):=by
   rw[show (t:Int)/4294967296=(e:Int) by rw[← he,B_eq]; omega]
   exact w64 (by omega)
  clear hy he
  have w1:IntKind.u64.wrap ((p:Int)*d)=(pd:Int):=by
   rw[show (p:Int)*(d:Int)=((p*d:Nat):Int) by simp,hpd]; exact w64 (by omega)
  have w2:IntKind.u64.wrap ((pd:Int)+c)=(t:Int):=by rw[w64']<;>omega
  have w3:IntKind.u32.wrap (y:Int)=y:=IntWalk.u32_in _ (by omega)
  have w4:IntKind.i64.wrap ((k:Int)+1)=(k:Int)+1:=wrap64 (by omega) (by omega)
  have hkM:(k:Int)≤(a.length:Int):=by omega
  have hkM2:k≤a.length:=by omega
  simp[c_q_scale_l0,hkM]
  refine eCall_i d1 (by simp[f1]) (by simp) ?_
  simp[w1,w2,eBin_quo,eBin_rem,t1,t2,w3,w4,hdl,hst,dg_stm f1]
  omega
 ·have hlt:val a*d<B^(a.length+1):=by
   rw[Nat.pow_succ]
   exact Nat.mul_lt_mul_of_lt_of_lt (val_lt ha) hd
  have kt:=trim_ref (m:=.plain) (a:=digsN (a.length+1) (val a*d)) ok_digsN (by rw[digsN_len]; omega)
  rw[val_digsN_lt hlt] at kt
  have hkM:¬ (a.length:Int)+1≤(a.length:Int):=by omega
  simp[c_q_scale_l0,stSc,hkM,c_q_scale_k1,r_q_scale]
  refine eCall_i (imp_arg1 kt imp_outV) (by simp) (.inl rfl) ?_
  simp
end Go.Proofs.Ytbgnkodhpbkdoaa

namespace Go.Proofs.Ytbgnkodhpbkdoaa
open Go Go.Am Go.Dig
def stSh2 (m1:Am.Mode) (a:List Nat) (n k:Nat):St :=
 {env:=[(0,nl m1 a),(1,iv n),(5,appV 1 14 (drows (List.replicate k 0))),(6,iv k)],sto:=[]}
theorem shift_ref {m1:Am.Mode} {a:List Nat} {n:Nat} (ha:ok a) (hna:a.length<137438953472) (hn:n<137438953472) (f1:stm m1=m1) :
  SoundCall Try.prog F_q_shift [nl m1 a,iv n] (nD (val a*B^n)):=by
 refine sound' t_q_shift (by simp) ?_
 simp[c_q_shift]
 refine awp_forW (stSh2 m1 a n) (fun _=>True) n (by simp[stSh2]) trivial (fun k hk _=>?_) (fun _=>?_)
 ·have hst:stSh2 m1 a n (k+1)={env:=[(0,nl m1 a),(1,iv n),(5,appV 1 14 (drows (List.replicate k 0++[0]))),(6,iv ((k:Int)+1))],sto:=[]}:=by
   rw[stSh2,List.replicate_succ']; rfl
  have hl:(List.replicate k 0).length=k:=List.length_replicate
  rw[stSh2]
  generalize List.replicate k 0=D at *
  have w4:IntKind.i64.wrap ((k:Int)+1)=(k:Int)+1:=wrap64 (by omega) (by omega)
  have hkn:(k:Int)<(n:Int):=by omega
  simp[c_q_shift_l0,hkn,w4,hl,hst,dg_stm f1]
  exact ⟨by omega,by omega,rfl⟩
 ·have hl:(List.replicate n 0).length=n:=List.length_replicate
  have hv:val (List.replicate n 0++a)=val a*B^n:=by rw[val_append,val_rep,hl,Nat.zero_add,Nat.mul_comm]
  have kt:=trim_ref (m:=.plain) (a:=List.replicate n 0++a) (ok_append.2 ⟨ok_rep n,ha⟩) (by rw[List.length_append,hl]; omega)
  rw[hv] at kt
  rw[stSh2]
  generalize List.replicate n 0=D at *
  simp[c_q_shift_l0,c_q_shift_k1]
  refine eAppend_appV2 (by simp) (.inr rfl) (by simp) (by simp) (by simp; omega) (by simp; omega) fun t ht=>?_
  simp
  refine eCall_i kt (by simp) (.inl rfl) ?_
  simp[r_q_shift]
theorem imp_arg2l {f:FuncId} {x x' y r:AV} (h:SoundCall Try.prog f [x',y] r) (hy:AV.imp x x'):SoundCall Try.prog f [x,y] r:=fun I vs w h1 h2 h3 =>
 h I vs w h1 h2 fun i a hi=>by
  match i,hi with
  | 0,hi=>simp at hi; subst hi; exact hy _ _ _ (h3 0 x rfl)
  | 1,hi=>exact h3 1 a hi
  | i+2,hi=>simp at hi
def stMR (m1 m2:Am.Mode) (a b:List Nat) (k:Nat):St :=
 {env:=[(0,nl m1 a),(1,nl m2 b),(5,if k=0 then .list 0 .full [] else nD (val a*val (b.take k))),(6,iv k)],sto:=[]}
theorem mulR_succ {a b:List Nat} {k:Nat} (hk:k<b.length):val a*val (b.take (k+1))=val a*val (b.take k)+val a*b[k]*B^k:=by
 rw[val_take_succ hk,Nat.mul_add,Nat.mul_comm (B^k),Nat.mul_assoc]
theorem mul_ref {m1 m2:Am.Mode} {a b:List Nat} (ha:ok a) (hb:ok b) (hs:a.length+b.length<68719476736) (f1:stm m1=m1) (_f2:stm m2=m2) :
  SoundCall Try.prog F_q_Mul [nl m1 a,nl m2 b] (nD (val a*val b)):=by
 refine soundW' t_q_Mul (by simp) ?_
 simp[c_q_Mul]
 refine awp_forW (stMR m1 m2 a b) (fun _=>True) b.length (by simp[stMR]) trivial (fun k hk _=>?_) (fun _=>?_)
 ·have hbk:=ok_get hb hk
  have hg:∃ x,b[k]=x:=⟨_,rfl⟩
  have hsucc:=mulR_succ (a:=a) hk
  have haB:=val_lt ha
  have hbB:val (b.take k)<B^k:=val_lt_of (ok_take hb k) (by simp; omega)
  generalize hx:b[k]=x at *
  have k1:=scale_ref (m1:=m1) (d:=x) ha (by omega) hbk f1
  have hl1:(digs (val a*x)).length≤a.length+1:=digs_len_le.2 (by rw[Nat.pow_succ]; exact Nat.mul_lt_mul_of_lt_of_lt haB hbk)
  have k2:=shift_ref (m1:=.plain) (n:=k) (ok_digs (val a*x)) (by omega) (by omega) rfl
  rw[val_digs] at k2
  have hl2:(digs (val a*x*B^k)).length≤a.length+1+k:=digs_len_le.2 (by
   rw[Nat.pow_add,Nat.pow_succ]
   exact Nat.mul_lt_mul_of_pos_right (Nat.mul_lt_mul_of_lt_of_lt haB hbk) (pw_pos k))
  have hl3:(digs (val a*val (b.take k))).length≤a.length+k:=digs_len_le.2 (by
   rw[Nat.pow_add]; exact Nat.mul_lt_mul_of_lt_of_lt haB hbB)
  have k3:=add_ref (m1:=.plain) (m2:=.plain) (ok_digs (val a*val (b.take k))) (ok_digs (val a*x*B^k)) (by omega) (by omega) rfl rfl
  rw[val_digs,val_digs] at k3
  rw[← hsucc] at k3
  rw[B_eq] at hbk
  have w1:IntKind.u64.wrap (x:Int)=x:=w64 (by omega)
  have w4:IntKind.i64.wrap ((k:Int)+1)=(k:Int)+1:=wrap64 (by omega) (by omega)
  have hkb:(k:Int)<(b.length:Int):=by omega
  obtain ⟨o,ho⟩:∃ o,(if k=0 then AV.list 0 .full [] else nD (val a*val (b.take k)))=o:=⟨_,rfl⟩
  simp[c_q_Mul_l0,hkb,hk,stMR,hx,w1]
  refine eCall_i k1 (by simp[f1]) (by simp) ?_
  simp
  refine eCall_i k2 (by simp) (by simp) ?_
  rcases Nat.eq_zero_or_pos k with h0 | h0
  ·subst h0
   have e0:nl .plain (digs (val a*val (b.take 0)))=nD 0:=by simp[val]
   rw[e0] at k3
   simp
   refine eCall_i (imp_arg2l k3 (small_zero (sz:=0))) (by simp) (by simp) ?_
   have w0:IntKind.i64.wrap 1=1:=by decide
   simp[w0,stMR]
  ·have hk0:¬ k=0:=by omega
   simp[hk0]
   refine eCall_i k3 (by simp) (by simp) ?_
   simp[w4,stMR]
 ·rcases Nat.eq_zero_or_pos b.length with h0 | h0
  ·have hb0:b=[]:=List.length_eq_zero_iff.1 h0
   subst hb0
   simp[c_q_Mul_l0,stMR,c_q_Mul_k1,r_q_Mul,val]
   exact small_zero
  ·have hk0:¬ b.length=0:=by omega
   have hbn:¬ b=[]:=fun e=>by subst e; simp at h0
   simp[c_q_Mul_l0,stMR,c_q_Mul_k1,r_q_Mul,hk0]
   exact AV.imp.refl
end Go.Proofs.Ytbgnkodhpbkdoaa

namespace Go.Proofs.Ytbgnkodhpbkdoaa
open Go Go.Am Go.Dig
theorem B_pow2 (q:Nat):B^q=2^(32*q):=by rw[Nat.pow_mul]; rfl
theorem bit_plain {x i:Nat}:x/B^(i/32)%B/2^(i%32)%2=x/2^i%2:=by
 have hi:2^i=B^(i/32)*2^(i%32):=by rw[B_pow2,← Nat.pow_add]; congr 1; omega
 rw[hi,← Nat.div_div_eq_div_mul]
 generalize x/B^(i/32)=y
 have hr:i%32<32:=Nat.mod_lt _ (by omega)
 generalize i%32=r at *
 have hB:B=2^r*2^(32-r):=by
  rw[← Nat.pow_add,Nat.add_sub_cancel' (by omega)]; rfl
 rw[hB,Nat.mod_mul_right_div_self]
 exact Nat.mod_mod_of_dvd _ ⟨2^(31-r),by rw[show 32-r=(31-r)+1 by omega,Nat.pow_succ,Nat.mul_comm]⟩
theorem bit_ref {m:Am.Mode} {a:List Nat} {i:Nat} (ha:ok a) (hn:a.length<1099511627776) (hi:i<35184372088832) (f1:stm m=m):SoundCall Try.prog F_q_Bit [nl m a,iv i] (u64v (val a/2^i%2)):=by
 have d1:=digit_ref (m:=m) (i:=i/32) ha hn (by omega)
 rw[getD_val ha] at d1
 have hp:=bit_plain (x:=val a) (i:=i)
 have hpB:val a/B^(i/32)%B<B:=Nat.mod_lt _ B_pos
 rw[← hp]
 clear hp
 generalize val a/B^(i/32)%B=p at *
 have q1:IntKind.i64.wrap ((i:Int)/32)=((i/32:Nat):Int):=by rw[wrap64]<;>omega
 have q2:(i:Int).tmod 32=((i%32:Nat):Int):=by
  rw[show (32:Int)=((32:Nat):Int) from rfl,← Int.ofNat_tmod]
 have hr:i%32<32:=Nat.mod_lt _ (by omega)
 obtain ⟨q,hq⟩:∃ q,i/32=q:=⟨_,rfl⟩
 obtain ⟨r,hr2⟩:∃ r,i%32=r:=⟨_,rfl⟩
 rw[hq] at q1 d1
 rw[hr2] at q2 hr
 rw[hr2]
 clear hq hr2
 have hP:0<2^r:=Nat.pow_pos (by omega)
 have hPB:=pow_bits hr
 have hmin:min r IntKind.u64.bits=r:=by
  have:IntKind.u64.bits=64:=rfl
  omega
 obtain ⟨P,hPe⟩:∃ P,2^r=P:=⟨_,rfl⟩
 rw[hPe] at hP hPB
 rw[hPe]
 have u1:IntKind.u64.wrap ((2:Int)^r)=(P:Int):=by
  rw[show (2:Int)^r=((2^r:Nat):Int) by simp,hPe]; exact w64 (by rw[B_eq] at hPB; omega)
 have hne:¬ P=0:=by omega
 have u2:IntKind.u64.wrap ((p:Int)/(P:Int))=((p/P:Nat):Int):=by
  rw[← Int.natCast_ediv]; exact w64 (Nat.lt_of_le_of_lt (Nat.div_le_self _ _) (by rw[B_eq] at hpB; omega))
 obtain ⟨z,hz⟩:∃ z,p/P=z:=⟨_,rfl⟩
 rw[hz] at u2
 rw[hz]
 have u3:(z:Int).tmod 2=((z%2:Nat):Int):=by
  rw[show (2:Int)=((2:Nat):Int) from rfl,← Int.ofNat_tmod]
 clear hz hPe
 refine sound' t_q_Bit (by simp) ?_
 simp[c_q_Bit,eBin_quo,q1]
 refine eCall_i d1 (by simp[f1]) (by simp) ?_
 simp[eBin_quo,eBin_rem,eBin_shl,q2,hmin,u1,hne,u2,u3,r_q_Bit]
end Go.Proofs.Ytbgnkodhpbkdoaa

namespace Go.Proofs.Ytbgnkodhpbkdoaa
open Go Go.Am Go.Dig
def bl (x:Nat):Nat:=if x=0 then 0 else Nat.log2 x+1
theorem bl_lt (x:Nat):x<2^bl x:=by
 unfold bl
 split
 ·subst x; decide
 ·exact Nat.lt_log2_self
theorem bl_top {x:Nat} (h:0<bl x):x/2^(bl x-1)%2=1:=by
 unfold bl at *
 split at h
 ·exact absurd h (Nat.lt_irrefl _)
 ·rename_i h0
  rw[if_neg h0,Nat.add_sub_cancel]
  have h1:=Nat.log2_self_le h0
  have h2:x<2^(Nat.log2 x+1):=Nat.lt_log2_self
  have h3:x/2^Nat.log2 x=1:=by
   rw[Nat.div_eq_iff (Nat.pow_pos (by omega))]
   rw[Nat.pow_succ] at h2
   omega
  rw[h3]
theorem bl_le {x n:Nat} (h:x<2^n):bl x≤n:=by
 unfold bl
 split
 ·omega
 ·rename_i h0
  exact (Nat.log2_lt h0).2 h
def stB (m:Am.Mode) (a:List Nat) (k:Nat):St:={env:=[(0,nl m a),(3,iv ((32*a.length-k:Nat):Int))],sto:=[]}
theorem bits_ref {m:Am.Mode} {a:List Nat} (ha:ok a) (hn:a.length<137438953472) (f1:stm m=m):SoundCall Try.prog F_q_Bits [nl m a] (iv (bl (val a))):=by
 refine sound' t_q_Bits (by simp) ?_
 have hlt:val a<2^(32*a.length):=by rw[← B_pow2]; exact val_lt ha
 have hle:=bl_le hlt
 have w0:IntKind.i64.wrap (32*(a.length:Int))=((32*a.length:Nat):Int):=by rw[wrap64]<;>omega
 simp[c_q_Bits,w0]
 refine awp_forW (stB m a) (fun _=>True) (32*a.length-bl (val a)) (by simp[stB]) trivial (fun k hk _=>?_) (fun _=>?_)
 ·obtain ⟨j,hj⟩:∃ j,32*a.length-k=j+1:=⟨32*a.length-k-1,by omega⟩
  have hj2:32*a.length-(k+1)=j:=by omega
  have hb:=bit_ref (m:=m) (i:=j) ha (by omega) (by omega) f1
  have hz:val a/2^j%2=0:=by
   rw[Nat.div_eq_of_lt]
   exact Nat.lt_of_lt_of_le (bl_lt _) (Nat.pow_le_pow_right (by omega) (by omega))
  rw[hz] at hb
  have hst:stB m a (k+1)={env:=[(0,nl m a),(3,iv j)],sto:=[]}:=by rw[stB,hj2]
  have hst0:stB m a k={env:=[(0,nl m a),(3,iv ((j:Int)+1))],sto:=[]}:=by rw[stB,hj]; rfl
  have w1:IntKind.i64.wrap (j:Int)=(j:Int):=by rw[wrap64]<;>omega
  have p1:(0:Int)<(j:Int)+1:=by omega
  rw[hst0]
  simp[c_q_Bits_l0,p1,w1]
  refine eCall_i hb (by simp[f1]) (by simp) ?_
  simp[w1,hst]
 ·have e:32*a.length-(32*a.length-bl (val a))=bl (val a):=by omega
  have ht:=fun h=>bl_top (x:=val a) h
  have hb:=fun i h=>bit_ref (m:=m) (i:=i) ha (by omega) h f1
  rw[stB,e]
  generalize bl (val a)=L at *
  rcases L with _ | j
  ·simp[c_q_Bits_l0,c_q_Bits_k1,r_q_Bits]
  ·have hb:=hb j (by omega)
   have ht:=ht (by omega)
   rw[Nat.add_sub_cancel] at ht
   rw[ht] at hb
   have w1:IntKind.i64.wrap (j:Int)=(j:Int):=by rw[wrap64]<;>omega
   have p1:(0:Int)<(j:Int)+1:=by omega
   simp[c_q_Bits_l0,p1,w1]
   refine eCall_i hb (by simp[f1]) (by simp) ?_
   simp[c_q_Bits_k1,r_q_Bits]
end Go.Proofs.Ytbgnkodhpbkdoaa

namespace Go.Proofs.Ytbgnkodhpbkdoaa
open Go Go.Am Go.Dig
theorem high_plain {Y r:Nat} (hr:r<32):(Y%B+Y/B%B*B)/2^r%B=Y/2^r%B:=by
 have h1:Y%B+Y/B%B*B=Y%(2^r*2^(64-r)):=by
  have:2^r*2^(64-r)=B*B:=by
   rw[← Nat.pow_add,Nat.add_sub_cancel' (by omega)]; rfl
  rw[this,Nat.mod_mul,Nat.mul_comm]
 rw[h1,Nat.mod_mul_right_div_self]
 refine Nat.mod_mod_of_dvd _ ⟨2^(32-r),?_⟩
 rw[show 64-r=32+(32-r) by omega,Nat.pow_add]; rfl
theorem high_digit {x k t:Nat}:x/2^k/B^t%B=(x/B^(k/32+t)%B+x/B^(k/32+t+1)%B*B)/2^(k%32)%B:=by
 have h1:x/B^(k/32+t+1)=x/B^(k/32+t)/B:=by rw[Nat.pow_succ,Nat.div_div_eq_div_mul]
 rw[h1,high_plain (Nat.mod_lt _ (by omega)),Nat.div_div_eq_div_mul,Nat.div_div_eq_div_mul]
 have:2^k*B^t=B^(k/32+t)*2^(k%32):=by
  rw[B_pow2,B_pow2,← Nat.pow_add,← Nat.pow_add]; congr 1; omega
 rw[this]
def stH (m:Am.Mode) (a:List Nat) (k t:Nat):St :=
 {env:=[(0,nl m a),(1,iv k),(5,appV 1 34 (drows (digsN t (val a/2^k)))),(6,iv ((k/32+t:Nat):Int))],sto:=[]}
theorem high_ref {m:Am.Mode} {a:List Nat} {k:Nat} (ha:ok a) (hn:a.length<137438953472) (hk:k<35184372088832) (f1:stm m=m):SoundCall Try.prog F_q_high [nl m a,iv k] (nD (val a/2^k)):=by
 refine sound' t_q_high (by simp) ?_
 have q0:IntKind.i64.wrap ((k:Int)/32)=((k/32:Nat):Int):=by rw[wrap64]<;>omega
 have q2:(k:Int).tmod 32=((k%32:Nat):Int):=by
  rw[show (32:Int)=((32:Nat):Int) from rfl,← Int.ofNat_tmod]
 simp[c_q_high,eBin_quo,q0]
 refine awp_forW (stH m a k) (fun _=>True) (a.length-k/32) (by simp[stH,digsN]) trivial (fun t ht _=>?_) (fun _=>?_)
 ·have d1:=digit_ref (m:=m) (i:=k/32+t) ha (by omega) (by omega)
  have d2:=digit_ref (m:=m) (i:=k/32+t+1) ha (by omega) (by omega)
  rw[getD_val ha] at d1 d2
  have hd:=high_digit (x:=val a) (k:=k) (t:=t)
  have hsucc:=digsN_succ (n:=t) (x:=val a/2^k)
  have hdl:=digsN_len (n:=t) (x:=val a/2^k)
  rw[hd] at hsucc
  have hst:stH m a k (t+1)={env:=[(0,nl m a),(1,iv k),(5,appV 1 34 (drows (digsN (t+1) (val a/2^k)))),(6,iv ((k/32+t:Nat)+1:Int))],sto:=[]}:=by
   rw[stH]; rfl
  rw[hsucc] at hst
  rw[stH]
  clear hd hsucc
  have hpB:val a/B^(k/32+t)%B<B:=Nat.mod_lt _ B_pos
  have hqB:val a/B^(k/32+t+1)%B<B:=Nat.mod_lt _ B_pos
  generalize val a/B^(k/32+t)%B=p at *
  generalize val a/B^(k/32+t+1)%B=q at *
  generalize digsN t (val a/2^k)=D at *
  have hr:k%32<32:=Nat.mod_lt _ (by omega)
  obtain ⟨i,hi⟩:∃ i,k/32+t=i:=⟨_,rfl⟩
  obtain ⟨r,hr2⟩:∃ r,k%32=r:=⟨_,rfl⟩
  have hil:i<a.length:=by omega
  rw[hi] at d1 d2 hst
  rw[hi]
  rw[hr2] at hst q2 hr
  have htb:t<a.length:=by omega
  clear hi hr2 ht q0
  have hP:0<2^r:=Nat.pow_pos (by omega)
  have hPB:=pow_bits hr
  have hmin:min r IntKind.u64.bits=r:=by
   have:IntKind.u64.bits=64:=rfl
   omega
  obtain ⟨P,hPe⟩:∃ P,2^r=P:=⟨_,rfl⟩
  rw[hPe] at hP hPB hst
  have u1:IntKind.u64.wrap ((2:Int)^r)=(P:Int):=by
   rw[show (2:Int)^r=((2^r:Nat):Int) by simp,hPe]; exact w64 (by rw[B_eq] at hPB; omega)
  have hne:¬ P=0:=by omega
  clear hPe
  have hs:=two_dig_lt hqB hpB
  obtain ⟨s,hse⟩:∃ s,p+q*B=s:=⟨_,rfl⟩
  have hsB:s<18446744073709551616:=by rw[← hse,Nat.add_comm]; exact hs
  rw[hse] at hst
  obtain ⟨qb,hqb⟩:∃ qb,q*B=qb:=⟨_,rfl⟩
  rw[hqb] at hse
  have w1:IntKind.u64.wrap ((q:Int)*4294967296)=(qb:Int):=by
   rw[show (q:Int)*4294967296=((q*B:Nat):Int) by rw[B_eq]; simp,hqb]; exact w64 (by omega)
  have w2:IntKind.u64.wrap ((p:Int)+qb)=(s:Int):=by rw[w64']<;>omega
  have u2:IntKind.u64.wrap ((s:Int)/(P:Int))=((s/P:Nat):Int):=by
   rw[← Int.natCast_ediv]; exact w64 (Nat.lt_of_le_of_lt (Nat.div_le_self _ _) hsB)
  obtain ⟨z,hz⟩:∃ z,s/P=z:=⟨_,rfl⟩
  rw[hz] at u2 hst
  obtain ⟨d,hd⟩:∃ d,z%B=d:=⟨_,rfl⟩
  rw[hd] at hst
  have u3:(z:Int).tmod 4294967296=(d:Int):=by
   rw[← hd,B_eq,show (4294967296:Int)=((4294967296:Nat):Int) from rfl,← Int.ofNat_tmod]
  have hdB:d<B:=by rw[← hd]; exact Nat.mod_lt _ B_pos
  clear hz hd hqb hs
  rw[B_eq] at hdB
  have w3:IntKind.u32.wrap (d:Int)=d:=IntWalk.u32_in _ (by omega)
  have w4:IntKind.i64.wrap ((i:Int)+1)=(i:Int)+1:=wrap64 (by omega) (by omega)
  have hil':(i:Int)<(a.length:Int):=by omega
  simp[c_q_high_l0,hil']
  refine eCall_i d1 (by simp[f1]) (by simp) ?_
  simp[w4]
  refine eCall_i d2 (by simp[f1]) (by simp) ?_
  simp[eBin_quo,eBin_rem,eBin_shl,w1,w2,q2,hmin,u1,hne,u2,u3,w3,w4,hst,dg_stm f1]
  omega
 ·have hlt:val a/2^k<B^(a.length-k/32):=by
   apply Nat.div_lt_of_lt_mul
   have h1:=val_lt ha
   have h2:B^a.length≤2^k*B^(a.length-k/32):=by
    rw[B_pow2,B_pow2,← Nat.pow_add]
    exact Nat.pow_le_pow_right (by omega) (by omega)
   exact Nat.lt_of_lt_of_le h1 h2
  have kt:=trim_ref (m:=.plain) (a:=digsN (a.length-k/32) (val a/2^k)) ok_digsN (by rw[digsN_len]; omega)
  rw[val_digsN_lt hlt] at kt
  rw[stH]
  generalize val a/2^k=y at *
  have hge:¬ ((k/32+(a.length-k/32):Nat):Int)<(a.length:Int):=by omega
  generalize k/32+(a.length-k/32)=i at *
  generalize a.length-k/32=n at *
  have hge':¬ i<a.length:=by omega
  simp[c_q_high_l0,hge',c_q_high_k1,r_q_high]
  refine eCall_i (imp_arg1 kt imp_outV) (by simp) (.inl rfl) ?_
  simp
end Go.Proofs.Ytbgnkodhpbkdoaa

namespace Go.Proofs.Ytbgnkodhpbkdoaa
open Go Go.Am Go.Dig
theorem bin_step {x y j:Nat} (hy:0<y) :
  let r:=2*(x/2^(j+1)%y)+x/2^j%2
  (r<y→x/2^j/y=2*(x/2^(j+1)/y)∧x/2^j%y=r)∧(y≤r→x/2^j/y=2*(x/2^(j+1)/y)+1∧x/2^j%y=r-y):=by
 intro r
 have hX:x/2^j=2*(x/2^(j+1))+x/2^j%2:=by
  have:x/2^(j+1)=x/2^j/2:=by rw[Nat.pow_succ,Nat.div_div_eq_div_mul]
  rw[this]; omega
 have hb:x/2^j%2<2:=Nat.mod_lt _ (by omega)
 have hd:=Nat.div_add_mod (x/2^(j+1)) y
 have hm:=Nat.mod_lt (x/2^(j+1)) hy
 have hr:r=2*(x/2^(j+1)%y)+x/2^j%2:=rfl
 generalize x/2^j%2=b at *
 generalize x/2^(j+1)/y=q at *
 generalize x/2^(j+1)%y=m at *
 generalize x/2^(j+1)=X at *
 generalize x/2^j=Z at *
 have hZ:Z=y*(2*q)+r:=by
  rw[show y*(2*q)=2*(y*q) by rw[Nat.mul_left_comm]]; omega
 clear hX hd
 constructor
 ·intro h
  rw[hZ]
  exact ⟨by rw[Nat.mul_add_div hy,Nat.div_eq_of_lt h,Nat.add_zero],by rw[Nat.mul_add_mod,Nat.mod_eq_of_lt h]⟩
 ·intro h
  have h2:Z=y*(2*q+1)+(r-y):=by rw[Nat.mul_add,Nat.mul_one]; omega
  have h3:r-y<y:=by omega
  rw[h2]
  exact ⟨by rw[Nat.mul_add_div hy,Nat.div_eq_of_lt h3,Nat.add_zero],by rw[Nat.mul_add_mod,Nat.mod_eq_of_lt h3]⟩
theorem bin_start {x y:Nat} (hy:0<y):x/2^(bl x+1-bl y)<y∧0<bl y:=by
 have h1:=bl_lt x
 have hne:y≠0:=by omega
 have hb:bl y=Nat.log2 y+1:=by unfold bl; rw[if_neg hne]
 have h2:=Nat.log2_self_le hne
 refine ⟨Nat.lt_of_lt_of_le ?_ h2,by omega⟩
 apply Nat.div_lt_of_lt_mul
 rw[← Nat.pow_add]
 exact Nat.lt_of_lt_of_le h1 (Nat.pow_le_pow_right (by omega) (by omega))
def qA (t Q:Nat):AV:=if t=0 then .list 0 .full [] else nD Q
def stDR (m1 m2:Am.Mode) (a c:List Nat) (k t:Nat):St :=
 {env:=[(0,nl m1 a),(1,nl m2 c),(8,qA t (val a/2^(k-t)/val c)),(9,nD (val a/2^(k-t)%val c)),(10,iv ((k:Int)-1-t))],sto:=[]}
theorem divMod_ref {m1 m2:Am.Mode} {a c:List Nat} (ha:ok a) (hc:ok c) (hna:a.length<68719476736) (hnc:c.length<68719476736) (f1:stm m1=m1) (f2:stm m2=m2) (hD:val c≠0) :
  SoundCall Try.prog F_q_DivMod [nl m1 a,nl m2 c] (divR (val a) (val c)):=by
 have hy:0<val c:=by omega
 obtain ⟨s1,s2⟩:=bin_start (x:=val a) hy
 have b1:=bits_ref ha (by omega) f1
 have b2:=bits_ref hc (by omega) f2
 have hl1:bl (val a)≤32*a.length:=bl_le (by rw[← B_pow2]; exact val_lt ha)
 have hl2:bl (val c)≤32*c.length:=bl_le (by rw[← B_pow2]; exact val_lt hc)
 obtain ⟨k,hk⟩:∃ k,bl (val a)+1-bl (val c)=k:=⟨_,rfl⟩
 have hk2:k≤32*a.length:=by omega
 have hh:=high_ref (k:=k) ha (by omega) (by omega) f1
 have hcl:¬ c.length=0:=fun h=>by
  rw[List.length_eq_zero_iff] at h
  subst h
  exact hD rfl
 have hcn:¬ c=[]:=fun h=>hcl (by rw[h]; rfl)
 rw[hk] at s1
 have m0:max (1:Int) (bl (val c):Int)=(bl (val c):Int):=by omega
 have w0:IntKind.i64.wrap ((bl (val a):Int)-(bl (val c):Int))=(bl (val a):Int)-(bl (val c):Int):=by rw[wrap64]<;>omega
 have w1:IntKind.i64.wrap ((bl (val a):Int)-(bl (val c):Int)+1)=(bl (val a):Int)-(bl (val c):Int)+1:=by rw[wrap64]<;>omega
 have m1':max (0:Int) ((bl (val a):Int)-(bl (val c):Int)+1)=(k:Int):=by omega
 have w2:IntKind.i64.wrap ((k:Int)-1)=(k:Int)-1:=by rw[wrap64]<;>omega
 refine soundW' t_q_DivMod (by simp) ?_
 simp[c_q_DivMod,hcl]
 refine eCall_i b1 (by simp[f1]) (by simp) ?_
 simp
 refine eCall_i b2 (by simp[f2]) (by simp) ?_
 simp[m0,w0,w1,m1']
 refine eCall_i hh (by simp[f1]) (by simp) ?_
 simp[w2]
 have r0:val a/2^k%val c=val a/2^k:=Nat.mod_eq_of_lt s1
 refine awp_forW (stDR m1 m2 a c k) (fun _=>True) k (by simp[stDR,qA,r0]) trivial (fun t ht _=>?_) (fun _=>?_)
 ·obtain ⟨j,hj⟩:∃ j,k-1-t=j:=⟨_,rfl⟩
  have hj1:k-t=j+1:=by omega
  have hj2:k-(t+1)=j:=by omega
  have hjz:(k:Int)-1-t=(j:Int):=by omega
  obtain ⟨p1,p2⟩:=bin_step (x:=val a) (j:=j) hy
  have hb:=bit_ref (m:=m1) (i:=j) ha (by omega) (by omega) f1
  have hQ:val a/2^(j+1)/val c<B^a.length:=Nat.lt_of_le_of_lt (Nat.le_trans (Nat.div_le_self _ _) (Nat.div_le_self _ _)) (val_lt ha)
  have hR:val a/2^(j+1)%val c<B^c.length:=Nat.lt_trans (Nat.mod_lt _ hy) (val_lt hc)
  have hbt:val a/2^j%2<2:=Nat.mod_lt _ (by omega)
  have hst:stDR m1 m2 a c k (t+1)={env:=[(0,nl m1 a),(1,nl m2 c),(8,nD (val a/2^j/val c)),(9,nD (val a/2^j%val c)),(10,iv ((j:Int)-1))],sto:=[]}:=by
   rw[stDR,hj2,qA,if_neg (by omega),show (k:Int)-1-((t+1:Nat):Int)=(j:Int)-1 by omega]
  rw[stDR,hj1,hjz]
  have h2:∀ {z n:Nat},z<B^n→z+z<B^(n+1)∧z+z+1<B^(n+1):=fun {z n} h=>by
   rw[Nat.pow_succ]
   have:B^n*2≤B^n*B:=Nat.mul_le_mul_left _ (by decide)
   omega
  have q0:t=0→val a/2^(j+1)/val c=0:=fun h=>by
   have:j+1=k:=by omega
   rw[this]; exact Nat.div_eq_of_lt s1
  generalize val a/2^(j+1)/val c=Q at *
  generalize val a/2^(j+1)%val c=R at *
  generalize val a/2^j%2=d at *
  have lQ:=digs_len_le.2 hQ
  have lR:=digs_len_le.2 hR
  have lQQ:=digs_len_le.2 (h2 hQ).1
  have lRR:=digs_len_le.2 (h2 hR).1
  have lRR1:(digs (R+R+d)).length≤c.length+1:=digs_len_le.2 (by have:=h2 hR; omega)
  have ld:(digs d).length≤1:=digs_len_le.2 (by rw[Nat.pow_one,B_eq]; omega)
  have kq:=add_ref (m1:=.plain) (m2:=.plain) (ok_digs Q) (ok_digs Q) (by omega) (by omega) rfl rfl
  have kr:=add_ref (m1:=.plain) (m2:=.plain) (ok_digs R) (ok_digs R) (by omega) (by omega) rfl rfl
  have kf:=fromUint_ref (x:=d) (by omega)
  have kr2:=add_ref (m1:=.plain) (m2:=.plain) (ok_digs (R+R)) (ok_digs d) (by omega) (by omega) rfl rfl
  have kc:=cmp_ref (m1:=.plain) (m2:=m2) (ok_digs (R+R+d)) hc (by omega) (by omega) rfl f2
  have ks:=sub_ref (m1:=.plain) (m2:=m2) (ok_digs (R+R+d)) hc (by omega) (by omega) rfl f2
  have kf1:=fromUint_ref (x:=1) (by omega)
  have l1:(digs 1).length≤1:=digs_len_le.2 (by decide)
  have kq1:=add_ref (m1:=.plain) (m2:=.plain) (ok_digs (Q+Q)) (ok_digs 1) (by omega) (by omega) rfl rfl
  simp only[val_digs] at kq kr kr2 kc ks kq1
  have w3:IntKind.i64.wrap ((j:Int)-1)=(j:Int)-1:=by rw[wrap64]<;>omega
  have kq':SoundCall Try.prog F_q_Add [qA t Q,qA t Q] (nD (Q+Q))∧qA t Q=(if t=0 then .list 0 .full [] else nD Q):=by
   refine ⟨?_,rfl⟩
   unfold qA
   split
   ·rename_i h0
    have hq0:=q0 h0
    subst hq0
    exact imp_arg2l (imp_arg2 kq (small_zero (sz:=0))) (small_zero (sz:=0))
   ·exact kq
  have hsn:snap (fun _=>none) (qA t Q)=some (qA t Q):=by unfold qA; split<;>simp
  have hrf:([qA t Q,qA t Q]:List AV).any hasRef=false:=by unfold qA; split<;>simp
  simp[c_q_DivMod_l0]
  refine eCall_i kq'.1 (by simp[hsn]) (.inl hrf) ?_
  simp
  refine eCall_i kr (by simp) (by simp) ?_
  simp
  refine eCall_i hb (by simp[f1]) (by simp) ?_
  simp
  refine eCall_i kf (by simp) (by simp) ?_
  simp
  refine eCall_i kr2 (by simp) (by simp) ?_
  simp
  refine eCall_i kc (by simp[f2]) (by simp) ?_
  have e2:R+R+d=2*R+d:=by omega
  have e3:Q+Q=2*Q:=by omega
  by_cases hlt:R+R+d<val c
  ·have hcm:¬ (0:Int)≤cmpN (R+R+d) (val c):=by simp[cmpN,hlt]
   obtain ⟨g1,g2⟩:=p1 (by omega)
   rw[g1,g2,← e2,← e3] at hst
   simp[hcm,w3,hst]
  ·have hcm:(0:Int)≤cmpN (R+R+d) (val c):=by simp only[cmpN,if_neg hlt]; split<;>omega
   obtain ⟨g1,g2⟩:=p2 (by omega)
   rw[g1,g2,← e2,← e3] at hst
   simp[hcm]
   refine eCall_i ks (by simp[f2]) (by simp) ?_
   simp
   refine eCall_i kf1 (by simp) (by simp) ?_
   simp
   refine eCall_i kq1 (by simp) (by simp) ?_
   simp[w3,hst]
 ·have hkk:¬ (k:Int)≤(k:Int)-1:=by omega
  have e0:¬ (0:Int)≤(k:Int)-1-k:=by omega
  simp[c_q_DivMod_l0,stDR,hkk,c_q_DivMod_k1,r_q_DivMod]
  rcases Nat.eq_zero_or_pos k with h0 | h0
  ·subst h0
   have hz:val a/val c=0:=by rw[Nat.pow_zero,Nat.div_one] at s1; exact Nat.div_eq_of_lt s1
   simp[qA]
   rw[divR,hz]
   exact imp_tup3 small_zero AV.imp.refl AV.imp.refl
  ·have hk0:¬ k=0:=by omega
   simp[qA,hk0]
   exact AV.imp.refl
end Go.Proofs.Ytbgnkodhpbkdoaa

namespace Go.Proofs.Ytbgnkodhpbkdoaa
open Go Go.Am Go.Dig
theorem gcd_ref {A D:Nat} (hna:(digs A).length<68719476736) (hnc:(digs D).length<68719476736) :
  SoundCall Try.prog F_q_GCD [nD A,nD D] (nD (Nat.gcd A D)):=by
 obtain ⟨N,h1,h2⟩:=eu_end D A
 obtain ⟨L,hL⟩:∃ L,L=68719476735:=⟨_,rfl⟩
 have hL1:A<B^L:=digs_len_le.1 (by omega)
 have hL2:D<B^L:=digs_len_le.1 (by omega)
 have hb:=fun k=>eu_lt k A D hL1 hL2
 have hlen:∀ x,x<B^L→(digs x).length<68719476736:=fun x hx=>Nat.lt_of_le_of_lt (digs_len_le.2 hx) (by omega)
 have hg:=hlen _ (show Nat.gcd A D<B^L by have:=(hb N).1; rw[h2] at this; exact this)
 refine sound' t_q_GCD (by simp) ?_
 simp[c_q_GCD]
 refine awp_forW (fun k=>stG (eu A D k)) (fun _=>True) N (by simp[stG,eu]) trivial (fun k hk _=>?_) (fun _=>?_)
 ·have hne:=h1 k hk
  obtain ⟨b1,b2⟩:=hb k
  have b1':=hlen _ b1
  have b2':=hlen _ b2
  have hs:=eu_succ k A D
  obtain ⟨x,hx⟩:∃ x,(eu A D k).1=x:=⟨_,rfl⟩
  obtain ⟨y,hy⟩:∃ y,(eu A D k).2=y:=⟨_,rfl⟩
  rw[hx,hy] at hs
  rw[hx] at b1'
  rw[hy] at b2' hne
  have kd:=divMod_ref (m1:=.plain) (m2:=.plain) (ok_digs x) (ok_digs y) b1' b2' rfl rfl (by rw[val_digs]; exact hne)
  rw[val_digs,val_digs] at kd
  have hl0:0<(digs y).length:=by
   rcases Nat.eq_zero_or_pos (digs y).length with h | h
   ·rw[List.length_eq_zero_iff,digs_eq_nil] at h; exact absurd h hne
   ·exact h
  simp[c_q_GCD_l0,stG,hl0,hx,hy]
  refine eCall_i kd (by simp) (by simp) ?_
  simp[hs]
 ·simp only[h2]
  have kt:=trim_ref (m:=.plain) (ok_digs (Nat.gcd A D)) (by omega)
  rw[val_digs] at kt
  simp[c_q_GCD_l0,c_q_GCD_k1,r_q_GCD,stG,digs_zero]
  refine eCall_i kt (by simp) (by simp) ?_
  simp
end Go.Proofs.Ytbgnkodhpbkdoaa

namespace Go.Proofs.Ytbgnkodhpbkdoaa
open Go Go.Am Go.Dig
def fracO (neg:Bool) (N D:Nat):AV:=.agg [bv (neg&&decide (N≠0)),nD (N/Nat.gcd N D),nD (D/Nat.gcd N D)]
theorem gcd_fact {N D:Nat} (hD:D≠0):Nat.gcd N D≠0∧(N/Nat.gcd N D=0↔N=0)∧Nat.gcd N D≤D:=by
 have hg:0<Nat.gcd N D:=Nat.gcd_pos_of_pos_right _ (by omega)
 refine ⟨by omega,?_,Nat.gcd_le_right _ (by omega)⟩
 constructor
 ·intro h
  have:=Nat.div_mul_cancel (Nat.gcd_dvd_left N D)
  rw[h,Nat.zero_mul] at this
  exact this.symm
 ·intro h
  rw[h,Nat.zero_div]
theorem make_sound {neg:Bool} {N D:Nat} (hN:(digs N).length<68719476736) (hD:(digs D).length<68719476736) (h0:D≠0) :
  SoundCall Try.prog F_f_Make [bv neg,nD N,nD D] (.tuple [fracO neg N D,iv 0]):=by
 obtain ⟨g0,g1,g2⟩:=gcd_fact (N:=N) h0
 have kg:=gcd_sound (m1:=.plain) (m2:=.plain) (ok_digs N) (ok_digs D) (by omega) (by omega) rfl rfl
 rw[val_digs,val_digs] at kg
 have hgl:(digs (Nat.gcd N D)).length<68719476736:=by
  have h1:D<B^(digs D).length:=digs_len_le.1 (Nat.le_refl _)
  exact Nat.lt_of_le_of_lt (digs_len_le.2 (Nat.lt_of_le_of_lt g2 h1)) hD
 have hl0:¬ (digs D).length=0:=by rw[List.length_eq_zero_iff,digs_eq_nil]; exact h0
 have hl1:¬ digs D=[]:=by rw[digs_eq_nil]; exact h0
 unfold fracO
 have hz:(digs (N/Nat.gcd N D)).length=0↔N=0:=by rw[List.length_eq_zero_iff,digs_eq_nil]; exact g1
 generalize Nat.gcd N D=g at *
 have kn:=divMod_sound (m1:=.plain) (m2:=.plain) (ok_digs N) (ok_digs g) (by omega) (by omega) rfl rfl (by rw[val_digs]; exact g0)
 have kd:=divMod_sound (m1:=.plain) (m2:=.plain) (ok_digs D) (ok_digs g) (by omega) (by omega) rfl rfl (by rw[val_digs]; exact g0)
 simp only[val_digs] at kn kd
 refine sound' t_f_Make (by simp) ?_
 simp[c_f_Make,hl0]
 refine eCall_i kg (by simp) (by simp) ?_
 simp
 refine eCall_i kn (by simp) (by simp) ?_
 simp
 refine eCall_i kd (by simp) (by simp) ?_
 cases neg
 ·simp[r_f_Make]
 ·by_cases hN0:N=0
  ·have:=hz.2 hN0
   simp[r_f_Make,hN0,digs_zero]
  ·have:0<(digs (N/g)).length:=by omega
   simp[r_f_Make,this,hN0]
theorem made_sound {neg:Bool} {N D:Nat} (hN:(digs N).length<68719476736) (hD:(digs D).length<68719476736) (h0:D≠0) :
  SoundCall Try.prog F_f_made [bv neg,nD N,nD D] (fracO neg N D):=by
 have k:=make_sound (neg:=neg) hN hD h0
 unfold fracO at *
 generalize N/Nat.gcd N D=n at *
 generalize D/Nat.gcd N D=d at *
 refine sound' t_f_made (by simp) ?_
 simp[c_f_made]
 refine eCall_i k (by simp) (by simp) ?_
 simp[r_f_made]
end Go.Proofs.Ytbgnkodhpbkdoaa

namespace Go.Proofs.Ytbgnkodhpbkdoaa
open Go Go.Am Go.Dig
theorem make_ref {neg:Bool} {N D:Nat} (hN:(digs N).length<68719476736) (hD:(digs D).length<68719476736) (h0:D≠0) :
  SoundCall Try.prog F_p_Make [bv neg,nD N,nD D] (.tuple [fracO neg N D,iv 0]):=by
 obtain ⟨g0,g1,g2⟩:=gcd_fact (N:=N) h0
 have kg:=gcd_ref hN hD
 have hgl:(digs (Nat.gcd N D)).length<68719476736:=by
  have h1:D<B^(digs D).length:=digs_len_le.1 (Nat.le_refl _)
  exact Nat.lt_of_le_of_lt (digs_len_le.2 (Nat.lt_of_le_of_lt g2 h1)) hD
 have hl0:¬ (digs D).length=0:=by rw[List.length_eq_zero_iff,digs_eq_nil]; exact h0
 have hl1:¬ digs D=[]:=by rw[digs_eq_nil]; exact h0
 unfold fracO
 have hz:(digs (N/Nat.gcd N D)).length=0↔N=0:=by rw[List.length_eq_zero_iff,digs_eq_nil]; exact g1
 generalize Nat.gcd N D=g at *
 have kn:=divMod_ref (m1:=.plain) (m2:=.plain) (ok_digs N) (ok_digs g) (by omega) (by omega) rfl rfl (by rw[val_digs]; exact g0)
 have kd:=divMod_ref (m1:=.plain) (m2:=.plain) (ok_digs D) (ok_digs g) (by omega) (by omega) rfl rfl (by rw[val_digs]; exact g0)
 simp only[val_digs] at kn kd
 refine sound' t_p_Make (by simp) ?_
 simp[c_p_Make,hl0]
 refine eCall_i kg (by simp) (by simp) ?_
 simp
 refine eCall_i kn (by simp) (by simp) ?_
 simp
 refine eCall_i kd (by simp) (by simp) ?_
 cases neg
 ·simp[r_p_Make]
 ·by_cases hN0:N=0
  ·subst hN0
   simp[r_p_Make,digs_zero]
  ·have:0<(digs N).length:=by
    rcases Nat.eq_zero_or_pos (digs N).length with h | h
    ·rw[List.length_eq_zero_iff,digs_eq_nil] at h; exact absurd h hN0
    ·exact h
   simp[r_p_Make,this,hN0]
end Go.Proofs.Ytbgnkodhpbkdoaa

namespace Go.Proofs.Ytbgnkodhpbkdoaa
open Go Go.Am Go.Dig
theorem neg_pure {P:Program} {k:IntKind} {a:Int}:semPure P (Op.unary .neg (Value.int k a))=some (Value.int k (k.wrap (-a))):=by
 simp[semPure,Op.unary,Op.intArith,pure]
theorem ofV_int {k:IntKind} {a:Int}:ofV (Value.int k a)=.val (.int k a):=rfl
theorem size_fraction {n:Int} (h1:-9223372036854775808≤n) (h2:n<9223372036854775808):SoundCall Try.prog F_f_size [iv n] (nD n.natAbs):=by
 obtain ⟨x,hx⟩:∃ x,n.natAbs=x:=⟨_,rfl⟩
 have hxl:x<18446744073709551616:=by omega
 have k:=fromUint_sound (x:=x) hxl
 rw[hx]
 refine sound' t_f_size (by simp) ?_
 by_cases h:n<0
 ·have w1:IntKind.i64.wrap (n+1)=n+1:=by rw[wrap64]<;>omega
  have w2:IntKind.i64.wrap (-(n+1))=(x:Int)-1:=by rw[wrap64]<;>omega
  have w2':IntKind.i64.wrap (-1+-n)=(x:Int)-1:=by rw[wrap64]<;>omega
  have w3:IntKind.u64.wrap ((x:Int)-1)=(x:Int)-1:=by rw[w64']<;>omega
  have w4:IntKind.u64.wrap (x:Int)=x:=w64 hxl
  simp[c_f_size,h,w1,neg_pure,w2,w3,w4]
  refine eCall_i k (by simp) (by simp) ?_
  simp[r_f_size]
 ·have w4:IntKind.u64.wrap n=(x:Int):=by rw[w64']<;>omega
  simp[c_f_size,h,w4]
  refine eCall_i k (by simp) (by simp) ?_
  simp[r_f_size]
theorem size_ref02 {n:Int} (h1:-9223372036854775808≤n) (h2:n<9223372036854775808):SoundCall Try.prog F_p_size [iv n] (nD n.natAbs):=by
 obtain ⟨x,hx⟩:∃ x,n.natAbs=x:=⟨_,rfl⟩
 have hxl:x<18446744073709551616:=by omega
 have k:=fromUint_ref (x:=x) hxl
 rw[hx]
 refine sound' t_p_size (by simp) ?_
 by_cases h:n<0
 ·have w1:IntKind.i64.wrap (n+1)=n+1:=by rw[wrap64]<;>omega
  have w2:IntKind.i64.wrap (-(n+1))=(x:Int)-1:=by rw[wrap64]<;>omega
  have w2':IntKind.i64.wrap (-1+-n)=(x:Int)-1:=by rw[wrap64]<;>omega
  have w3:IntKind.u64.wrap ((x:Int)-1)=(x:Int)-1:=by rw[w64']<;>omega
  have w4:IntKind.u64.wrap (x:Int)=x:=w64 hxl
  simp[c_p_size,h,w1,neg_pure,w2,w3,w4]
  refine eCall_i k (by simp) (by simp) ?_
  simp[r_p_size]
 ·have w4:IntKind.u64.wrap n=(x:Int):=by rw[w64']<;>omega
  simp[c_p_size,h,w4]
  refine eCall_i k (by simp) (by simp) ?_
  simp[r_p_size]
end Go.Proofs.Ytbgnkodhpbkdoaa

namespace Go.Proofs.Ytbgnkodhpbkdoaa
open Go Go.Am Go.Dig
theorem digs_small {x:Nat} (h:x<18446744073709551616):(digs x).length≤2:=digs_len_le.2 (by
 have:B^2=18446744073709551616:=by decide
 omega)
theorem new_ref {n d:Int} (h1:-9223372036854775808≤n) (h2:n<9223372036854775808) (h3:-9223372036854775808≤d) (h4:d<9223372036854775808) (h0:d≠0) :
  SoundCall Try.prog F_p_New [iv n,iv d] (.tuple [fracO (decide (n<0) != decide (d<0)) n.natAbs d.natAbs,iv 0]):=by
 have k1:=size_ref02 h1 h2
 have k2:=size_ref02 h3 h4
 have l1:=digs_small (x:=n.natAbs) (by omega)
 have l2:=digs_small (x:=d.natAbs) (by omega)
 have k3:=make_ref (neg:=decide (n<0) != decide (d<0)) (N:=n.natAbs) (D:=d.natAbs) (by omega) (by omega) (by omega)
 unfold fracO at *
 generalize n.natAbs/Nat.gcd n.natAbs d.natAbs=p at *
 generalize d.natAbs/Nat.gcd n.natAbs d.natAbs=q at *
 generalize hb:(decide (n<0) != decide (d<0))=b at *
 refine sound' t_p_New (by simp) ?_
 have hu:Try.prog.underlying T_bool=some .bool:=by first | exact un_T_bool | rfl | kernel_rfl
 have hb':(!(decide (n<0) == decide (d<0)))=b:=hb
 simp[c_p_New,eBin_neq_bool hu]
 rw[hb']
 refine eCall_i k1 (by simp) (by simp) ?_
 simp
 refine eCall_i k2 (by simp) (by simp) ?_
 simp
 refine eCall_i k3 (by simp) (by simp) ?_
 simp[r_p_New]
theorem fromInt_ref {n:Int} (h1:-9223372036854775808≤n) (h2:n<9223372036854775808):SoundCall Try.prog F_p_FromInt [iv n] (fracO (decide (n<0)) n.natAbs 1):=by
 have k:=new_ref (n:=n) (d:=1) h1 h2 (by decide) (by decide) (by decide)
 have e:(decide (n<0) != decide ((1:Int)<0))=decide (n<0):=by simp
 rw[e,show (1:Int).natAbs=1 from rfl] at k
 unfold fracO at *
 generalize n.natAbs/Nat.gcd n.natAbs 1=p at *
 generalize 1/Nat.gcd n.natAbs 1=q at *
 refine sound' t_p_FromInt (by simp) ?_
 simp[c_p_FromInt]
 refine eCall_i k (by simp) (by simp) ?_
 simp[r_p_FromInt]
end Go.Proofs.Ytbgnkodhpbkdoaa

namespace Go.Proofs.Ytbgnkodhpbkdoaa
open Go Go.Am Go.Dig
theorem fromInt_sound {n:Int} (h1:-9223372036854775808≤n) (h2:n<9223372036854775808):SoundCall Try.prog F_f_FromInt [iv n] (fracO (decide (n<0)) n.natAbs 1):=by
 have k1:=size_fraction h1 h2
 have k2:=fromUint_sound (x:=1) (by omega)
 have l1:=digs_small (x:=n.natAbs) (by omega)
 have l2:=digs_small (x:=1) (by omega)
 have k3:=made_sound (neg:=decide (n<0)) (N:=n.natAbs) (D:=1) (by omega) (by omega) (by omega)
 unfold fracO at *
 generalize n.natAbs/Nat.gcd n.natAbs 1=p at *
 generalize 1/Nat.gcd n.natAbs 1=q at *
 refine sound' t_f_FromInt (by simp) ?_
 simp[c_f_FromInt]
 refine eCall_i k1 (by simp) (by simp) ?_
 simp
 refine eCall_i k2 (by simp) (by simp) ?_
 simp
 refine eCall_i k3 (by simp) (by simp) ?_
 simp[r_f_FromInt]
end Go.Proofs.Ytbgnkodhpbkdoaa

namespace Go.Proofs.Ytbgnkodhpbkdoaa
open Go Go.Am Go.Dig
abbrev frA (s:Bool) (N D:Nat):AV:=.agg [bv s,nD N,nD D]
theorem neg_sound {s:Bool} {N D:Nat} (hN:(digs N).length<68719476736) (hD:(digs D).length<68719476736) (h0:D≠0):SoundCall Try.prog F_f_Neg [frA s N D] (fracO (!s) N D):=by
 have k:=made_sound (neg:=!s) hN hD h0
 unfold fracO at *
 generalize N/Nat.gcd N D=p at *
 generalize D/Nat.gcd N D=q at *
 refine sound' t_f_Neg (by simp) ?_
 simp[c_f_Neg]
 refine eCall_i k (by simp) (by simp) ?_
 simp[r_f_Neg]
theorem mul_len {x y n m:Nat} (hx:(digs x).length≤n) (hy:(digs y).length≤m):(digs (x*y)).length≤n+m:=digs_len_le.2 (by
 rw[Nat.pow_add]; exact Nat.mul_lt_mul_of_lt_of_lt (digs_len_le.1 hx) (digs_len_le.1 hy))
theorem mulF_sound {s t:Bool} {N D M E:Nat} (hN:(digs N).length<17179869184) (hD:(digs D).length<17179869184) (hM:(digs M).length<17179869184) (hE:(digs E).length<17179869184) (h0:D≠0) (h1:E≠0) :
  SoundCall Try.prog F_f_Mul [frA s N D,frA t M E] (fracO (!(s == t)) (N*M) (D*E)):=by
 have l1:=mul_len (Nat.le_refl (digs N).length) (Nat.le_refl (digs M).length)
 have l2:=mul_len (Nat.le_refl (digs D).length) (Nat.le_refl (digs E).length)
 have h2:D*E≠0:=Nat.mul_ne_zero h0 h1
 have k1:=mul_sound (m1:=.plain) (m2:=.plain) (ok_digs N) (ok_digs M) (by omega) (by omega) (by omega) rfl rfl
 have k2:=mul_sound (m1:=.plain) (m2:=.plain) (ok_digs D) (ok_digs E) (by omega) (by omega) (by omega) rfl rfl
 simp only[val_digs] at k1 k2
 have k:=made_sound (neg:=!(s == t)) (N:=N*M) (D:=D*E) (by omega) (by omega) h2
 unfold fracO at *
 generalize N*M/Nat.gcd (N*M) (D*E)=p at *
 generalize D*E/Nat.gcd (N*M) (D*E)=q at *
 refine sound' t_f_Mul (by simp) ?_
 simp[c_f_Mul,eBin_neq_bool ub_bool]
 refine eCall_i k1 (by simp) (by simp) ?_
 simp
 refine eCall_i k2 (by simp) (by simp) ?_
 simp
 refine eCall_i k (by simp) (by simp) ?_
 simp[r_f_Mul]
end Go.Proofs.Ytbgnkodhpbkdoaa

namespace Go.Proofs.Ytbgnkodhpbkdoaa
open Go Go.Am Go.Dig
theorem cross_sound {s t:Bool} {N D M E:Nat} (hN:(digs N).length<17179869184) (hD:(digs D).length<17179869184) (hM:(digs M).length<17179869184) (hE:(digs E).length<17179869184) :
  SoundCall Try.prog F_f_cross [frA s N D,frA t M E] (.tuple [nD (N*E),nD (M*D)]):=by
 have k1:=mul_sound (m1:=.plain) (m2:=.plain) (ok_digs N) (ok_digs E) (by omega) (by omega) (by omega) rfl rfl
 have k2:=mul_sound (m1:=.plain) (m2:=.plain) (ok_digs M) (ok_digs D) (by omega) (by omega) (by omega) rfl rfl
 simp only[val_digs] at k1 k2
 refine sound' t_f_cross (by simp) ?_
 simp[c_f_cross]
 refine eCall_i k1 (by simp) (by simp) ?_
 simp
 refine eCall_i k2 (by simp) (by simp) ?_
 simp[r_f_cross]
end Go.Proofs.Ytbgnkodhpbkdoaa

namespace Go.Proofs.Ytbgnkodhpbkdoaa
open Go Go.Am Go.Dig
def addO (s:Bool) (N D:Nat) (t:Bool) (M E:Nat):AV :=
 if s=t then fracO s (N*E+M*D) (D*E) else if N*E<M*D then fracO t (M*D-N*E) (D*E) else fracO s (N*E-M*D) (D*E)
theorem add_len {x y n:Nat} (hx:(digs x).length≤n) (hy:(digs y).length≤n):(digs (x+y)).length≤n+1:=digs_len_le.2 (by
 have h1:=digs_len_le.1 hx
 have h2:=digs_len_le.1 hy
 rw[Nat.pow_succ]
 have:B^n*2≤B^n*B:=Nat.mul_le_mul_left _ (by decide)
 omega)
theorem sub_len {x y n:Nat} (hx:(digs x).length≤n):(digs (x-y)).length≤n:=digs_len_le.2 (Nat.lt_of_le_of_lt (Nat.sub_le _ _) (digs_len_le.1 hx))
theorem fracO_eq (s:Bool) (N D:Nat):∃ b p q,fracO s N D=.agg [bv b,nD p,nD q]:=⟨_,_,_,rfl⟩
theorem addF_sound {s t:Bool} {N D M E:Nat} (hN:(digs N).length<17179869184) (hD:(digs D).length<17179869184) (hM:(digs M).length<17179869184) (hE:(digs E).length<17179869184) (h0:D≠0) (h1:E≠0) :
  SoundCall Try.prog F_f_Add [frA s N D,frA t M E] (addO s N D t M E):=by
 have l1:=mul_len (Nat.le_refl (digs N).length) (Nat.le_refl (digs E).length)
 have l2:=mul_len (Nat.le_refl (digs M).length) (Nat.le_refl (digs D).length)
 have l3:=mul_len (Nat.le_refl (digs D).length) (Nat.le_refl (digs E).length)
 have h2:D*E≠0:=Nat.mul_ne_zero h0 h1
 have kx:=cross_sound (s:=s) (t:=t) hN hD hM hE
 have kd:=mul_sound (m1:=.plain) (m2:=.plain) (ok_digs D) (ok_digs E) (by omega) (by omega) (by omega) rfl rfl
 simp only[val_digs] at kd
 have l4:=add_len (n:=34359738368) (show (digs (N*E)).length≤34359738368 by omega) (show (digs (M*D)).length≤34359738368 by omega)
 have l5:=sub_len (y:=M*D) l1
 have l6:=sub_len (y:=N*E) l2
 have ka:=add_sound (m1:=.plain) (m2:=.plain) (ok_digs (N*E)) (ok_digs (M*D)) (by omega) (by omega)
 have ks:=sub_sound (m1:=.plain) (m2:=.plain) (ok_digs (N*E)) (ok_digs (M*D)) (by omega) (by omega)
 have ks2:=sub_sound (m1:=.plain) (m2:=.plain) (ok_digs (M*D)) (ok_digs (N*E)) (by omega) (by omega)
 simp only[val_digs] at ka ks ks2
 have m1:=made_sound (neg:=s) (N:=N*E+M*D) (D:=D*E) (by omega) (by omega) h2
 have m2:=made_sound (neg:=s) (N:=N*E-M*D) (D:=D*E) (by omega) (by omega) h2
 have m3:=made_sound (neg:=t) (N:=M*D-N*E) (D:=D*E) (by omega) (by omega) h2
 unfold addO
 refine sound' t_f_Add (by simp) ?_
 generalize N*E=x at *
 generalize M*D=y at *
 generalize D*E=d at *
 by_cases hst:s=t
 ·have e:(s == t)=true:=by simp[hst]
  obtain ⟨b,p,q,hf⟩:=fracO_eq s (x+y) d
  rw[if_pos hst,hf]
  rw[hf] at m1
  simp[c_f_Add]
  refine eCall_i kx (by simp) (by simp) ?_
  simp
  refine eCall_i kd (by simp) (by simp) ?_
  simp[eBin_eql_bool ub_bool,e]
  refine eCall_i ka (by simp) (by simp) ?_
  simp
  refine eCall_i m1 (by simp) (by simp) ?_
  simp[r_f_Add]
 ·have e:(s == t)=false:=by simp[hst]
  rw[if_neg hst]
  simp[c_f_Add]
  refine eCall_i kx (by simp) (by simp) ?_
  simp
  refine eCall_i kd (by simp) (by simp) ?_
  simp[eBin_eql_bool ub_bool,e]
  refine eCall_i ks (by simp) (by simp) ?_
  by_cases hlt:x<y
  ·obtain ⟨b,p,q,hf⟩:=fracO_eq t (y-x) d
   rw[if_pos hlt,hf]
   rw[hf] at m3
   have hge:¬ y<x:=by omega
   rw[if_neg hge] at ks2
   simp[hlt]
   refine eCall_i ks2 (by simp) (by simp) ?_
   simp
   refine eCall_i m3 (by simp) (by simp) ?_
   simp[r_f_Add]
  ·obtain ⟨b,p,q,hf⟩:=fracO_eq s (x-y) d
   rw[if_neg hlt,hf]
   rw[hf] at m2
   simp[hlt]
   refine eCall_i m2 (by simp) (by simp) ?_
   simp[r_f_Add]
end Go.Proofs.Ytbgnkodhpbkdoaa

namespace Go.Proofs.Ytbgnkodhpbkdoaa
open Go Go.Am Go.Dig
theorem neg_ref {s:Bool} {N D:Nat} (hN:(digs N).length<68719476736) (_hD:(digs D).length<68719476736):SoundCall Try.prog F_p_Neg [frA s N D] (frA (!s&&decide (N≠0)) N D):=by
 refine sound' t_p_Neg (by simp) ?_
 cases s
 ·by_cases h0:N=0
  ·subst h0
   simp[c_p_Neg,r_p_Neg,digs_zero]
  ·have:0<(digs N).length:=by
    rcases Nat.eq_zero_or_pos (digs N).length with h | h
    ·rw[List.length_eq_zero_iff,digs_eq_nil] at h; exact absurd h h0
    ·exact h
   simp[c_p_Neg,r_p_Neg,this,h0]
 ·simp[c_p_Neg,r_p_Neg]
theorem mulF_ref {s t:Bool} {N D M E:Nat} (hN:(digs N).length<17179869184) (hD:(digs D).length<17179869184) (hM:(digs M).length<17179869184) (hE:(digs E).length<17179869184) (h0:D≠0) (h1:E≠0) :
  SoundCall Try.prog F_p_Mul [frA s N D,frA t M E] (fracO (!(s == t)) (N*M) (D*E)):=by
 have l1:=mul_len (Nat.le_refl (digs N).length) (Nat.le_refl (digs M).length)
 have l2:=mul_len (Nat.le_refl (digs D).length) (Nat.le_refl (digs E).length)
 have h2:D*E≠0:=Nat.mul_ne_zero h0 h1
 have k1:=mul_ref (m1:=.plain) (m2:=.plain) (ok_digs N) (ok_digs M) (by omega) rfl rfl
 have k2:=mul_ref (m1:=.plain) (m2:=.plain) (ok_digs D) (ok_digs E) (by omega) rfl rfl
 simp only[val_digs] at k1 k2
 have k:=make_ref (neg:=!(s == t)) (N:=N*M) (D:=D*E) (by omega) (by omega) h2
 obtain ⟨b,p,q,hf⟩:=fracO_eq (!(s == t)) (N*M) (D*E)
 rw[hf] at k ⊢
 refine sound' t_p_Mul (by simp) ?_
 simp[c_p_Mul,eBin_neq_bool ub_bool]
 refine eCall_i k1 (by simp) (by simp) ?_
 simp
 refine eCall_i k2 (by simp) (by simp) ?_
 simp
 refine eCall_i k (by simp) (by simp) ?_
 simp[r_p_Mul]
end Go.Proofs.Ytbgnkodhpbkdoaa

namespace Go.Proofs.Ytbgnkodhpbkdoaa
open Go Go.Am Go.Dig
theorem addF_ref {s t:Bool} {N D M E:Nat} (hN:(digs N).length<17179869184) (hD:(digs D).length<17179869184) (hM:(digs M).length<17179869184) (hE:(digs E).length<17179869184) (h0:D≠0) (h1:E≠0) :
  SoundCall Try.prog F_p_Add [frA s N D,frA t M E] (addO s N D t M E):=by
 have l1:=mul_len (Nat.le_refl (digs N).length) (Nat.le_refl (digs E).length)
 have l2:=mul_len (Nat.le_refl (digs M).length) (Nat.le_refl (digs D).length)
 have l3:=mul_len (Nat.le_refl (digs D).length) (Nat.le_refl (digs E).length)
 have h2:D*E≠0:=Nat.mul_ne_zero h0 h1
 have kx:=mul_ref (m1:=.plain) (m2:=.plain) (ok_digs N) (ok_digs E) (by omega) rfl rfl
 have ky:=mul_ref (m1:=.plain) (m2:=.plain) (ok_digs M) (ok_digs D) (by omega) rfl rfl
 have kd:=mul_ref (m1:=.plain) (m2:=.plain) (ok_digs D) (ok_digs E) (by omega) rfl rfl
 simp only[val_digs] at kd kx ky
 have l4:=add_len (n:=34359738368) (show (digs (N*E)).length≤34359738368 by omega) (show (digs (M*D)).length≤34359738368 by omega)
 have l5:=sub_len (y:=M*D) l1
 have l6:=sub_len (y:=N*E) l2
 have ka:=add_ref (m1:=.plain) (m2:=.plain) (ok_digs (N*E)) (ok_digs (M*D)) (by omega) (by omega) rfl rfl
 have ks:=sub_ref (m1:=.plain) (m2:=.plain) (ok_digs (N*E)) (ok_digs (M*D)) (by omega) (by omega) rfl rfl
 have ks2:=sub_ref (m1:=.plain) (m2:=.plain) (ok_digs (M*D)) (ok_digs (N*E)) (by omega) (by omega) rfl rfl
 simp only[val_digs] at ka ks ks2
 have m1:=make_ref (neg:=s) (N:=N*E+M*D) (D:=D*E) (by omega) (by omega) h2
 have m2:=make_ref (neg:=s) (N:=N*E-M*D) (D:=D*E) (by omega) (by omega) h2
 have m3:=make_ref (neg:=t) (N:=M*D-N*E) (D:=D*E) (by omega) (by omega) h2
 unfold addO
 refine sound' t_p_Add (by simp) ?_
 generalize N*E=x at *
 generalize M*D=y at *
 generalize D*E=d at *
 by_cases hst:s=t
 ·have e:(s == t)=true:=by simp[hst]
  obtain ⟨b,p,q,hf⟩:=fracO_eq s (x+y) d
  rw[if_pos hst,hf]
  rw[hf] at m1
  simp[c_p_Add]
  refine eCall_i kx (by simp) (by simp) ?_
  simp
  refine eCall_i ky (by simp) (by simp) ?_
  simp
  refine eCall_i kd (by simp) (by simp) ?_
  simp[eBin_eql_bool ub_bool,e]
  refine eCall_i ka (by simp) (by simp) ?_
  simp
  refine eCall_i m1 (by simp) (by simp) ?_
  simp[r_p_Add]
 ·have e:(s == t)=false:=by simp[hst]
  rw[if_neg hst]
  simp[c_p_Add]
  refine eCall_i kx (by simp) (by simp) ?_
  simp
  refine eCall_i ky (by simp) (by simp) ?_
  simp
  refine eCall_i kd (by simp) (by simp) ?_
  simp[eBin_eql_bool ub_bool,e]
  refine eCall_i ks (by simp) (by simp) ?_
  by_cases hlt:x<y
  ·obtain ⟨b,p,q,hf⟩:=fracO_eq t (y-x) d
   rw[if_pos hlt,hf]
   rw[hf] at m3
   have hge:¬ y≤x:=by omega
   simp[hge]
   refine eCall_i ks2 (by simp) (by simp) ?_
   simp
   refine eCall_i m3 (by simp) (by simp) ?_
   simp[r_p_Add]
  ·obtain ⟨b,p,q,hf⟩:=fracO_eq s (x-y) d
   rw[if_neg hlt,hf]
   rw[hf] at m2
   have hle:y≤x:=by omega
   simp[hle]
   refine eCall_i m2 (by simp) (by simp) ?_
   simp[r_p_Add]
end Go.Proofs.Ytbgnkodhpbkdoaa

namespace Go.Proofs.Ytbgnkodhpbkdoaa
open Go Go.Am Go.Dig
abbrev frac (q:Rat):AV:=frA (decide (q.num<0)) q.num.natAbs q.den
def sg (s:Bool) (N:Nat):Int:=if s then -(N:Int) else N
theorem fracO_rat {s:Bool} {N D:Nat} (h:D≠0):fracO s N D=frac (mkRat (sg s N) D):=by
 have hab:(sg s N).natAbs=N:=by unfold sg; split<;>omega
 have hm:mkRat (sg s N) D=Rat.normalize (sg s N) D h:=by simp[mkRat,h]
 rw[hm,Rat.normalize_eq]
 unfold fracO frac
 simp only[hab]
 have hg:0<Nat.gcd N D:=Nat.gcd_pos_of_pos_right _ (by omega)
 obtain ⟨c,hc⟩:=Nat.gcd_dvd_left N D
 generalize Nat.gcd N D=g at *
 subst hc
 have e1:(sg s (g*c))/(g:Int)=sg s c:=by
  unfold sg
  split
  ·rw[show -((g*c:Nat):Int)=(g:Int)*(-(c:Int)) by rw[Int.natCast_mul,Int.mul_neg]]
   exact Int.mul_ediv_cancel_left _ (by omega)
  ·rw[Int.natCast_mul]
   exact Int.mul_ediv_cancel_left _ (by omega)
 have e2:g*c/g=c:=Nat.mul_div_cancel_left _ hg
 rw[e1,e2]
 have e3:(sg s c).natAbs=c:=by unfold sg; split<;>omega
 have e4:(s&&decide (g*c≠0))=decide (sg s c<0):=by
  have hg0:¬ g=0:=by omega
  unfold sg
  rcases Nat.eq_zero_or_pos c with h0 | h0
  ·subst h0; cases s<;>simp
  ·have hc0:¬ c=0:=by omega
   have hcl:0<c:=h0
   have hng:¬ (c:Int)<0:=by omega
   have hneg:-(c:Int)<0:=by omega
   have hgc:¬ g*c=0:=Nat.mul_ne_zero hg0 hc0
   cases s<;>simp[hng,hgc,hcl]
 rw[e3,e4]
end Go.Proofs.Ytbgnkodhpbkdoaa

namespace Go.Proofs.Ytbgnkodhpbkdoaa
open Go Go.Am Go.Dig
theorem sg_num (n:Int):sg (decide (n<0)) n.natAbs=n:=by
 unfold sg
 by_cases h:n<0
 ·simp[h]; omega
 ·simp[h]; omega
theorem mul_rat (p q:Rat):fracO (!(decide (p.num<0) == decide (q.num<0))) (p.num.natAbs*q.num.natAbs) (p.den*q.den)=frac (p*q):=by
 have h:p.den*q.den≠0:=Nat.mul_ne_zero p.den_nz q.den_nz
 rw[fracO_rat h,Rat.mul_def']
 congr 2
 have e1:=sg_num p.num
 have e2:=sg_num q.num
 generalize p.num.natAbs=x at *
 generalize q.num.natAbs=y at *
 generalize decide (p.num<0)=s at *
 generalize decide (q.num<0)=t at *
 rw[← e1,← e2]
 cases s<;>cases t<;>simp[sg,Int.neg_mul,Int.mul_neg]
theorem add_rat (p q:Rat):addO (decide (p.num<0)) p.num.natAbs p.den (decide (q.num<0)) q.num.natAbs q.den=frac (p+q):=by
 have h:p.den*q.den≠0:=Nat.mul_ne_zero p.den_nz q.den_nz
 have e1:=sg_num p.num
 have e2:=sg_num q.num
 unfold addO
 rw[fracO_rat h,fracO_rat h,fracO_rat h,Rat.add_def']
 generalize p.num.natAbs=x at *
 generalize q.num.natAbs=y at *
 generalize decide (p.num<0)=s at *
 generalize decide (q.num<0)=t at *
 rw[← e1,← e2]
 have a1:((x*q.den:Nat):Int)=(x:Int)*q.den:=Int.natCast_mul _ _
 have a2:((y*p.den:Nat):Int)=(y:Int)*p.den:=Int.natCast_mul _ _
 generalize hX:x*q.den=X at *
 generalize hY:y*p.den=Y at *
 cases s<;>cases t
 ·simp only[if_true]; congr 2; simp[sg]; omega
 ·simp only[Bool.false_eq_true,if_false]
  split<;>(congr 2; simp only[sg,if_true,Bool.false_eq_true,if_false,Int.neg_mul]; omega)
 ·simp only[Bool.true_eq_false,if_false]
  split<;>(congr 2; simp only[sg,if_true,Bool.false_eq_true,if_false,Int.neg_mul]; omega)
 ·simp only[if_true]; congr 2; simp only[sg,if_true,Int.neg_mul]; omega
end Go.Proofs.Ytbgnkodhpbkdoaa

namespace Go.LP
def sumR:Nat→(Nat→Rat)→Rat
 | 0,_=>0
 | n+1,f=>sumR n f+f n
theorem sumR_congr {n:Nat} {f g:Nat→Rat} (h:∀ i,i<n→f i=g i):sumR n f=sumR n g:=by
 induction n with
 | zero=>rfl
 | succ n ih=>simp only[sumR]; rw[ih fun i hi=>h i (by omega),h n (by omega)]
theorem sumR_zero {n:Nat} {f:Nat→Rat} (h:∀ i,i<n→f i=0):sumR n f=0:=by
 induction n with
 | zero=>rfl
 | succ n ih=>simp only[sumR]; rw[ih fun i hi=>h i (by omega),h n (by omega)]; grind
theorem sumR_add {n:Nat} {f g:Nat→Rat}:sumR n (fun i=>f i+g i)=sumR n f+sumR n g:=by
 induction n with
 | zero=>simp only[sumR]; grind
 | succ n ih=>simp only[sumR]; rw[ih]; grind
theorem sumR_mul {n:Nat} {f:Nat→Rat} {k:Rat}:sumR n (fun i=>k*f i)=k*sumR n f:=by
 induction n with
 | zero=>simp only[sumR]; grind
 | succ n ih=>simp only[sumR]; rw[ih]; grind
theorem sumR_mul' {n:Nat} {f:Nat→Rat} {k:Rat}:sumR n (fun i=>f i*k)=sumR n f*k:=by
 induction n with
 | zero=>simp only[sumR]; grind
 | succ n ih=>simp only[sumR]; rw[ih]; grind
theorem sumR_sub {n:Nat} {f g:Nat→Rat}:sumR n (fun i=>f i-g i)=sumR n f-sumR n g:=by
 induction n with
 | zero=>simp only[sumR]; grind
 | succ n ih=>simp only[sumR]; rw[ih]; grind
theorem sumR_neg {n:Nat} {f:Nat→Rat}:sumR n (fun i=>- f i)=- sumR n f:=by
 induction n with
 | zero=>simp only[sumR]; grind
 | succ n ih=>simp only[sumR]; rw[ih]; grind
theorem sumR_comm {n m:Nat} {f:Nat→Nat→Rat}:sumR n (fun i=>sumR m (f i))=sumR m (fun j=>sumR n fun i=>f i j):=by
 induction n with
 | zero=>simp only[sumR]; exact (sumR_zero fun _ _=>rfl).symm
 | succ n ih=>simp only[sumR]; rw[ih,← sumR_add]
theorem sumR_nonneg {n:Nat} {f:Nat→Rat} (h:∀ i,i<n→0≤f i):0≤sumR n f:=by
 induction n with
 | zero=>simp only[sumR]; grind
 | succ n ih=>simp only[sumR]; have:=ih fun i hi=>h i (by omega); have:=h n (by omega); grind
theorem sumR_le {n:Nat} {f g:Nat→Rat} (h:∀ i,i<n→f i≤g i):sumR n f≤sumR n g:=by
 induction n with
 | zero=>simp only[sumR]; grind
 | succ n ih=>simp only[sumR]; have:=ih fun i hi=>h i (by omega); have:=h n (by omega); grind
theorem sumR_split {n q:Nat} {f:Nat→Rat} (hq:q<n):sumR n f=f q+sumR n (fun j=>if j=q then 0 else f j):=by
 induction n with
 | zero=>omega
 | succ n ih =>
  simp only[sumR]
  by_cases h:q=n
  ·subst h
   rw[if_pos rfl,sumR_congr (f:=fun j=>if j=q then 0 else f j) (g:=f) fun i hi=>if_neg (by omega)]
   grind
  ·rw[ih (by omega),if_neg (fun e=>h e.symm)]
   grind
theorem sumR_one {n q:Nat} {f:Nat→Rat} (hq:q<n) (h:∀ i,i<n→i≠q→f i=0):sumR n f=f q:=by
 rw[sumR_split hq,sumR_zero (f:=fun j=>if j=q then 0 else f j) fun i hi=>by
  by_cases e:i=q
  ·exact if_pos e
  ·rw[if_neg e]; exact h i hi e]
 grind
theorem sumR_exists_neg {n:Nat} {f:Nat→Rat} (h:sumR n f<0):∃ i,i<n∧f i<0:=by
 induction n with
 | zero=>simp only[sumR] at h; grind
 | succ n ih =>
  simp only[sumR] at h
  by_cases h1:sumR n f<0
  ·obtain ⟨i,hi,hf⟩:=ih h1; exact ⟨i,by omega,hf⟩
  ·exact ⟨n,by omega,by grind⟩
structure Dict where
 r:Nat
 c:Nat
 a:Nat→Nat→Rat
 b:Nat→Rat
 cst:Nat→Rat
 v:Rat
 bas:Nat→Nat
 fre:Nat→Nat
def sol (d:Dict) (x:Nat→Rat):Prop:=∀ i,i<d.r→x (d.bas i)=d.b i-sumR d.c fun j=>d.a i j*x (d.fre j)
def obj (d:Dict) (x:Nat→Rat):Rat:=d.v+sumR d.c fun j=>d.cst j*x (d.fre j)
def Bij (d:Dict) (N:Nat):Prop:=∀ g:Nat→Rat,sumR N g=sumR d.c (fun j=>g (d.fre j))+sumR d.r (fun i=>g (d.bas i))
def upd {α:Type} (f:Nat→α) (p:Nat) (x:α):Nat→α:=fun i=>if i=p then x else f i
def pivot (d:Dict) (p q:Nat):Dict where
 r:=d.r
 c:=d.c
 a:=fun i j=>if i=p then (if j=q then 1/d.a p q else d.a p j*(1/d.a p q)) else (if j=q then -(d.a i q*(1/d.a p q)) else d.a i j-d.a i q*(d.a p j*(1/d.a p q)))
 b:=fun i=>if i=p then d.b p*(1/d.a p q) else d.b i-d.a i q*(d.b p*(1/d.a p q))
 cst:=fun j=>if j=q then -(d.cst q*(1/d.a p q)) else d.cst j-d.cst q*(d.a p j*(1/d.a p q))
 v:=d.v+d.cst q*(d.b p*(1/d.a p q))
 bas:=upd d.bas p (d.fre q)
 fre:=upd d.fre q (d.bas p)
theorem pivot_pivot {d:Dict} {p q:Nat} (h:d.a p q≠0):pivot (pivot d p q) p q=d:=by
 cases d with
 | mk r c a b cst v bas fre =>
  simp only at h
  simp only[pivot,Dict.mk.injEq,upd,if_true,true_and]
  refine ⟨?_,?_,?_,?_,?_,?_⟩
  ·funext i j
   by_cases hi:i=p<;>by_cases hj:j=q<;>simp only[hi,hj,if_true,if_false]<;>grind
  ·funext i
   by_cases hi:i=p<;>simp only[hi,if_true,if_false]<;>grind
  ·funext j
   by_cases hj:j=q<;>simp only[hj,if_true,if_false]<;>grind
  ·grind
  ·funext i; by_cases hi:i=p<;>simp[upd,hi]
  ·funext i; by_cases hi:i=q<;>simp[upd,hi]
theorem pivot_bij {d:Dict} {p q N:Nat} (hp:p<d.r) (hq:q<d.c) (h:Bij d N):Bij (pivot d p q) N:=by
 intro g
 rw[h g]
 simp only[pivot]
 rw[sumR_split (f:=fun j=>g (d.fre j)) hq,sumR_split (f:=fun j=>g (d.bas j)) hp,sumR_split (f:=fun j=>g (upd d.fre q (d.bas p) j)) hq,
  sumR_split (f:=fun j=>g (upd d.bas p (d.fre q) j)) hp]
 have e1:sumR d.c (fun j=>if j=q then 0 else g (upd d.fre q (d.bas p) j))=sumR d.c (fun j=>if j=q then 0 else g (d.fre j)):=sumR_congr fun i _=>by
  by_cases e:i=q<;>simp[e,upd]
 have e2:sumR d.r (fun j=>if j=p then 0 else g (upd d.bas p (d.fre q) j))=sumR d.r (fun j=>if j=p then 0 else g (d.bas j)):=sumR_congr fun i _=>by
  by_cases e:i=p<;>simp[e,upd]
 rw[e1,e2]
 simp only[upd,if_true]
 grind
theorem sol_pivot {d:Dict} {p q:Nat} (hp:p<d.r) (hq:q<d.c) (h:d.a p q≠0) {x:Nat→Rat} (hs:sol d x):sol (pivot d p q) x:=by
 have e0:=hs p hp
 rw[sumR_split hq] at e0
 have k1:∀ (k:Rat),sumR d.c (fun j=>if j=q then 0 else k*d.a p j*x (d.fre j))=k*sumR d.c (fun j=>if j=q then 0 else d.a p j*x (d.fre j)):=fun k=>by
  rw[← sumR_mul]
  exact sumR_congr fun j _=>by by_cases e:j=q<;>simp[e]; grind
 intro i hi
 simp only[pivot] at hi ⊢
 rw[sumR_split hq]
 by_cases hip:i=p
 ·subst hip
  have e1:sumR d.c (fun j=>if j=q then 0 else (if i=i then (if j=q then 1/d.a i q else d.a i j*(1/d.a i q)) else (if j=q then -(d.a i q*(1/d.a i q)) else d.a i j-d.a i q*(d.a i j*(1/d.a i q))))*x (upd d.fre q (d.bas i) j))
    = (1/d.a i q)*sumR d.c (fun j=>if j=q then 0 else d.a i j*x (d.fre j)):=by
   rw[← k1]
   exact sumR_congr fun j _=>by by_cases e:j=q<;>simp[e,upd]; grind
  rw[e1]
  simp only[upd,if_true]
  grind
 ·have e2:=hs i hi
  rw[sumR_split hq] at e2
  have e1:sumR d.c (fun j=>if j=q then 0 else (if i=p then (if j=q then 1/d.a p q else d.a p j*(1/d.a p q)) else (if j=q then -(d.a i q*(1/d.a p q)) else d.a i j-d.a i q*(d.a p j*(1/d.a p q))))*x (upd d.fre q (d.bas p) j))
    = sumR d.c (fun j=>if j=q then 0 else d.a i j*x (d.fre j))-(d.a i q*(1/d.a p q))*sumR d.c (fun j=>if j=q then 0 else d.a p j*x (d.fre j)):=by
   rw[← k1,← sumR_sub]
   exact sumR_congr fun j _=>by by_cases e:j=q<;>simp[e,upd,hip]<;>grind
  rw[e1]
  simp only[upd,if_true,if_neg hip]
  grind
theorem sol_pivot_iff {d:Dict} {p q:Nat} (hp:p<d.r) (hq:q<d.c) (h:d.a p q≠0) {x:Nat→Rat}:sol (pivot d p q) x↔sol d x:=by
 constructor
 ·intro hs
  have h2:(pivot d p q).a p q≠0:=by simp only[pivot,if_true]; grind
  have:=sol_pivot (d:=pivot d p q) hp hq h2 hs
  rwa [pivot_pivot h] at this
 ·exact sol_pivot hp hq h
theorem obj_pivot {d:Dict} {p q:Nat} (hp:p<d.r) (hq:q<d.c) (h:d.a p q≠0) {x:Nat→Rat} (hs:sol d x):obj (pivot d p q) x=obj d x:=by
 have e0:=hs p hp
 rw[sumR_split hq] at e0
 have k1:∀ (k:Rat),sumR d.c (fun j=>if j=q then 0 else k*d.a p j*x (d.fre j))=k*sumR d.c (fun j=>if j=q then 0 else d.a p j*x (d.fre j)):=fun k=>by
  rw[← sumR_mul]
  exact sumR_congr fun j _=>by by_cases e:j=q<;>simp[e]; grind
 simp only[obj,pivot]
 rw[sumR_split hq,sumR_split (f:=fun j=>d.cst j*x (d.fre j)) hq]
 have e1:sumR d.c (fun j=>if j=q then 0 else (if j=q then -(d.cst q*(1/d.a p q)) else d.cst j-d.cst q*(d.a p j*(1/d.a p q)))*x (upd d.fre q (d.bas p) j))
    = sumR d.c (fun j=>if j=q then 0 else d.cst j*x (d.fre j))-(d.cst q*(1/d.a p q))*sumR d.c (fun j=>if j=q then 0 else d.a p j*x (d.fre j)):=by
  rw[← k1,← sumR_sub]
  exact sumR_congr fun j _=>by by_cases e:j=q<;>simp[e,upd]<;>grind
 rw[e1]
 simp only[upd,if_true]
 grind
section
variable {d:Dict} {N:Nat} (hb:Bij d N)
include hb
theorem bij_count {k:Nat} (hk:k<N):sumR d.c (fun j=>if d.fre j=k then 1 else 0)+sumR d.r (fun i=>if d.bas i=k then 1 else 0)=1:=by
 have:=hb fun x=>if x=k then 1 else 0
 rw[sumR_one hk (fun i _ hne=>if_neg hne),if_pos rfl] at this
 exact this.symm
theorem bij_count0 {k:Nat} (hk:N≤k):sumR d.c (fun j=>if d.fre j=k then 1 else 0)+sumR d.r (fun i=>if d.bas i=k then 1 else 0)=0:=by
 have:=hb fun x=>if x=k then 1 else 0
 rw[sumR_zero (fun i hi=>if_neg (by omega))] at this
 exact this.symm
omit hb in
theorem ind_nonneg {n:Nat} {f:Nat→Nat} {k:Nat}:0≤sumR n (fun j=>if f j=k then 1 else 0):=sumR_nonneg fun i _=>by split<;>grind
omit hb in
theorem ind_pos {n j:Nat} {f:Nat→Nat} (hj:j<n):1≤sumR n (fun i=>if f i=f j then 1 else 0):=by
 rw[sumR_split hj]
 simp only[if_true]
 have:0≤sumR n (fun i=>if i=j then 0 else if f i=f j then (1:Rat) else 0):=sumR_nonneg fun i _=>by split<;>(try split)<;>grind
 grind
omit hb in
theorem ind_two {n i j:Nat} {f:Nat→Nat} (hi:i<n) (hj:j<n) (hne:i≠j) (he:f i=f j):2≤sumR n (fun l=>if f l=f j then 1 else 0):=by
 rw[sumR_split hj,sumR_split (f:=fun l=>if l=j then 0 else if f l=f j then (1:Rat) else 0) hi]
 simp only[if_true,if_neg hne,he]
 have:0≤sumR n (fun l=>if l=i then 0 else if l=j then 0 else if f l=f j then (1:Rat) else 0):=sumR_nonneg fun i _=>by split<;>(try split)<;>(try split)<;>grind
 grind
theorem fre_lt {j:Nat} (hj:j<d.c):d.fre j<N:=by
 rcases Nat.lt_or_ge (d.fre j) N with h | h
 ·exact h
 ·have h1:=bij_count0 hb h
  have h2:=ind_pos (f:=d.fre) hj
  have h3:=ind_nonneg (n:=d.r) (f:=d.bas) (k:=d.fre j)
  grind
theorem bas_lt {i:Nat} (hi:i<d.r):d.bas i<N:=by
 rcases Nat.lt_or_ge (d.bas i) N with h | h
 ·exact h
 ·have h1:=bij_count0 hb h
  have h2:=ind_pos (f:=d.bas) hi
  have h3:=ind_nonneg (n:=d.c) (f:=d.fre) (k:=d.bas i)
  grind
theorem fre_inj {i j:Nat} (hi:i<d.c) (hj:j<d.c) (h:d.fre i=d.fre j):i=j:=by
 by_cases e:i=j
 ·exact e
 ·have h1:=bij_count hb (fre_lt hb hj)
  have h2:=ind_two (f:=d.fre) hi hj e h
  have h3:=ind_nonneg (n:=d.r) (f:=d.bas) (k:=d.fre j)
  grind
theorem bas_inj {i j:Nat} (hi:i<d.r) (hj:j<d.r) (h:d.bas i=d.bas j):i=j:=by
 by_cases e:i=j
 ·exact e
 ·have h1:=bij_count hb (bas_lt hb hj)
  have h2:=ind_two (f:=d.bas) hi hj e h
  have h3:=ind_nonneg (n:=d.c) (f:=d.fre) (k:=d.bas j)
  grind
theorem fre_ne_bas {i j:Nat} (hi:i<d.r) (hj:j<d.c):d.fre j≠d.bas i:=fun e=>by
 have h1:=bij_count hb (bas_lt hb hi)
 have h2:=ind_pos (f:=d.bas) hi
 have h3:=ind_pos (f:=d.fre) hj
 rw[e] at h3
 grind
omit hb in
theorem ind_zero {n k:Nat} {f:Nat→Nat} (h:∀ j,j<n→f j≠k):sumR n (fun j=>if f j=k then (1:Rat) else 0)=0:=sumR_zero fun i hi=>if_neg (h i hi)
theorem free_or_basic {k:Nat} (hk:k<N):(∃ j,j<d.c∧d.fre j=k)∨∃ i,i<d.r∧d.bas i=k:=by
 apply Classical.byContradiction
 intro h
 have h1:=bij_count hb hk
 rw[ind_zero fun j hj e=>h (.inl ⟨j,hj,e⟩),ind_zero fun j hj e=>h (.inr ⟨j,hj,e⟩)] at h1
 grind
end
def inB (d:Dict) (k:Nat):Prop:=∃ i,i<d.r∧d.bas i=k
def vl (d:Dict) (k:Nat):Rat:=sumR d.r fun i=>if d.bas i=k then d.b i else 0
def cv (d:Dict) (k:Nat):Rat:=sumR d.c fun j=>if d.fre j=k then d.cst j else 0
section
variable {d:Dict} {N:Nat} (hb:Bij d N)
include hb
theorem vl_bas {i:Nat} (hi:i<d.r):vl d (d.bas i)=d.b i:=by
 unfold vl
 rw[sumR_one hi fun k hk hne=>if_neg fun e=>hne (bas_inj hb hk hi e),if_pos rfl]
omit hb in
theorem vl_fre {k:Nat} (h:¬ inB d k):vl d k=0:=sumR_zero fun i hi=>if_neg fun e=>h ⟨i,hi,e⟩
theorem cv_fre {j:Nat} (hj:j<d.c):cv d (d.fre j)=d.cst j:=by
 unfold cv
 rw[sumR_one hj fun k hk hne=>if_neg fun e=>hne (fre_inj hb hk hj e),if_pos rfl]
theorem cv_bas {k:Nat} (h:inB d k):cv d k=0:=by
 obtain ⟨i,hi,rfl⟩:=h
 exact sumR_zero fun j hj=>if_neg fun e=>fre_ne_bas hb hi hj e
theorem not_inB_fre {j:Nat} (hj:j<d.c):¬ inB d (d.fre j):=fun ⟨_,hi,e⟩=>fre_ne_bas hb hi hj e.symm
theorem free_of {k:Nat} (hk:k<N) (h:¬ inB d k):∃ j,j<d.c∧d.fre j=k:=(free_or_basic hb hk).resolve_right h
def ptq (d:Dict) (q:Nat) (y:Rat) (k:Nat):Rat:=sumR d.r (fun i=>if d.bas i=k then d.b i-d.a i q*y else 0)+(if d.fre q=k then y else 0)
theorem ptq_bas {q i:Nat} {y:Rat} (hq:q<d.c) (hi:i<d.r):ptq d q y (d.bas i)=d.b i-d.a i q*y:=by
 unfold ptq
 rw[sumR_one hi fun k hk hne=>if_neg fun e=>hne (bas_inj hb hk hi e),if_pos rfl,if_neg (fre_ne_bas hb hi hq)]
 grind
theorem ptq_fre {q j:Nat} {y:Rat} (hq:q<d.c) (hj:j<d.c):ptq d q y (d.fre j)=if j=q then y else 0:=by
 unfold ptq
 rw[sumR_zero fun i hi=>if_neg fun e=>fre_ne_bas hb hi hj e.symm]
 by_cases e:j=q
 ·subst e; simp; grind
 ·rw[if_neg e,if_neg fun h=>e (fre_inj hb hj hq h.symm)]; grind
theorem ptq_sol {q:Nat} {y:Rat} (hq:q<d.c):sol d (ptq d q y):=by
 intro i hi
 rw[ptq_bas hb hq hi,sumR_one hq (fun j hj hne=>by rw[ptq_fre hb hq hj,if_neg hne]; grind),ptq_fre hb hq hq,if_pos rfl]
theorem ptq_obj {q:Nat} {y:Rat} (hq:q<d.c):obj d (ptq d q y)=d.v+d.cst q*y:=by
 unfold obj
 rw[sumR_one hq (fun j hj hne=>by rw[ptq_fre hb hq hj,if_neg hne]; grind),ptq_fre hb hq hq,if_pos rfl]
theorem vl_sol:sol d (vl d):=by
 intro i hi
 rw[vl_bas hb hi,sumR_zero fun j hj=>by rw[vl_fre (not_inB_fre hb hj)]; grind]
 grind
theorem vl_obj:obj d (vl d)=d.v:=by
 unfold obj
 rw[sumR_zero fun j hj=>by rw[vl_fre (not_inB_fre hb hj)]; grind]
 grind
theorem obj_cv {x:Nat→Rat}:obj d x=d.v+sumR N fun k=>cv d k*x k:=by
 have:=hb fun k=>cv d k*x k
 rw[this,sumR_zero (n:=d.r) fun i hi=>by rw[cv_bas hb ⟨i,hi,rfl⟩]; grind]
 unfold obj
 rw[sumR_congr (g:=fun j=>cv d (d.fre j)*x (d.fre j)) fun j hj=>by rw[cv_fre hb hj]]
 grind
end
end Go.LP

namespace Go.LP
theorem lt_or_le (a b:Rat):a<b∨b≤a:=by
 by_cases h:a<b
 ·exact .inl h
 ·exact .inr (by grind)
theorem inv_pos' {a:Rat} (h:0<a):0<1/a:=by
 have h1:a*(1/a)=1:=by grind
 rcases lt_or_le 0 (1/a) with h2 | h2
 ·exact h2
 ·exfalso
  have:0≤a*(-(1/a)):=Rat.mul_nonneg (by grind) (by grind)
  grind
def Bland (d:Dict) (p q:Nat):Prop:=p<d.r∧q<d.c∧0<d.cst q∧(∀ j,j<d.c→0<d.cst j→d.fre q≤d.fre j)∧0<d.a p q ∧
 ∀ i,i<d.r→0<d.a i q→d.b p*d.a i q≤d.b i*d.a p q∧(d.b p*d.a i q=d.b i*d.a p q→d.bas p≤d.bas i)
def feas (d:Dict):Prop:=∀ i,i<d.r→0≤d.b i
theorem ratio_feas {d:Dict} {p q:Nat} (hp:p<d.r) (hf:feas d) (ha:0<d.a p q) (hr:∀ i,i<d.r→0<d.a i q→d.b p*d.a i q≤d.b i*d.a p q):feas (pivot d p q):=by
 have hi:=inv_pos' ha
 intro i hir
 simp only[pivot] at hir ⊢
 by_cases e:i=p
 ·rw[if_pos e]; exact Rat.mul_nonneg (hf p hp) (by grind)
 ·rw[if_neg e]
  have h0:0≤d.b p*(1/d.a p q):=Rat.mul_nonneg (hf p hp) (by grind)
  by_cases h:0<d.a i q
  ·have h1:=hr i hir h
   have h2:0≤(d.b i*d.a p q-d.b p*d.a i q)*(1/d.a p q):=Rat.mul_nonneg (by grind) (by grind)
   have h3:(d.b i*d.a p q-d.b p*d.a i q)*(1/d.a p q)=d.b i-d.a i q*(d.b p*(1/d.a p q)):=by grind
   rwa [h3] at h2
  ·have h1:0≤(- d.a i q)*(d.b p*(1/d.a p q)):=Rat.mul_nonneg (by grind) h0
   have:=hf i hir
   grind
theorem Bland.feas {d:Dict} {p q:Nat} (h:Bland d p q) (hf:feas d):feas (pivot d p q) :=
 ratio_feas h.1 hf h.2.2.2.2.1 fun i hi ha=>(h.2.2.2.2.2 i hi ha).1
theorem Bland.v_le {d:Dict} {p q:Nat} (h:Bland d p q) (hf:LP.feas d):d.v≤(pivot d p q).v:=by
 have hi:=inv_pos' h.2.2.2.2.1
 have h0:0≤d.cst q*(d.b p*(1/d.a p q)):=Rat.mul_nonneg (by have:=h.2.2.1; grind) (Rat.mul_nonneg (hf p h.1) (by grind))
 simp only[pivot]
 grind
theorem Bland.v_eq {d:Dict} {p q:Nat} (h:Bland d p q) (hv:(pivot d p q).v=d.v):d.b p=0:=by
 have hi:=inv_pos' h.2.2.2.2.1
 have hc:=h.2.2.1
 simp only[pivot] at hv
 have e:d.cst q*(d.b p*(1/d.a p q))=0:=by grind
 have h1:d.b p*(1/d.a p q)=0:=by grind
 grind
theorem vl_deg {d:Dict} {p q:Nat} (h:d.b p=0) (k:Nat):vl (pivot d p q) k=vl d k:=by
 unfold vl
 simp only[pivot]
 refine sumR_congr fun i _=>?_
 by_cases e:i=p
 ·subst e
  simp only[h,upd,if_true]
  have:(0:Rat)*(1/d.a i q)=0:=by grind
  rw[this]
  split<;>split<;>rfl
 ·simp only[h,upd,if_neg e]
  have:d.b i-d.a i q*(0*(1/d.a p q))=d.b i:=by grind
  rw[this]
theorem core {d d':Dict} {N p q q':Nat} (hb:Bij d N) (hb':Bij d' N) (ho:∀ x,sol d x→obj d x=obj d' x) (hv:d.v=d'.v) (hB:Bland d p q)
  (hq':q'<d'.c) (ht:d'.fre q'=d.bas p) (hc':0<d'.cst q') (hm':∀ j,j<d'.c→0<d'.cst j→d'.fre q'≤d'.fre j)
  (hs:d.fre q<d.bas p) (hr:∀ k,inB d k→¬ inB d' k→k≤d.bas p∧vl d k=0) (hp0:d.b p=0) (_hf:feas d):False:=by
 obtain ⟨hp,hq,hc,hmin,ha,hrat⟩:=hB
 have key:∀ y:Rat,d.cst q*y=cv d' (d.fre q)*y+(sumR d.r (fun i=>cv d' (d.bas i)*d.b i)-sumR d.r (fun i=>cv d' (d.bas i)*d.a i q)*y):=fun y=>by
  have h1:=ho _ (ptq_sol hb hq (y:=y))
  rw[ptq_obj hb hq,obj_cv hb',hb (fun k=>cv d' k*ptq d q y k)] at h1
  rw[sumR_one hq (fun j hj hne=>by rw[ptq_fre hb hq hj,if_neg hne]; grind),ptq_fre hb hq hq,if_pos rfl] at h1
  rw[sumR_congr (g:=fun i=>cv d' (d.bas i)*d.b i-cv d' (d.bas i)*d.a i q*y) fun i hi=>by rw[ptq_bas hb hq hi]; grind] at h1
  rw[sumR_sub,sumR_mul'] at h1
  grind
 have k0:=key 0
 have k1:=key 1
 have neg_of:∀ {k:Nat},k<d.bas p→k<N→cv d' k≤0:=fun {k} hk hkN=>by
  rcases lt_or_le 0 (cv d' k) with h | h
  ·exfalso
   by_cases hin:inB d' k
   ·rw[cv_bas hb' hin] at h; grind
   ·obtain ⟨j,hj,rfl⟩:=free_of hb' hkN hin
    rw[cv_fre hb' hj] at h
    have:=hm' j hj h
    omega
  ·exact h
 have c1:=neg_of hs (fre_lt hb hq)
 have c2:sumR d.r (fun i=>cv d' (d.bas i)*d.a i q)<0:=by grind
 obtain ⟨i,hi,hneg⟩:=sumR_exists_neg c2
 have hnin:¬ inB d' (d.bas i):=fun h=>by rw[cv_bas hb' h] at hneg; grind
 obtain ⟨h1,h2⟩:=hr _ ⟨i,hi,rfl⟩ hnin
 rw[vl_bas hb hi] at h2
 have hne:d.bas i≠d.bas p:=fun e=>by
  have e2:=bas_inj hb hi hp e
  subst e2
  rw[← ht,cv_fre hb' hq'] at hneg
  have:0<d'.cst q'*d.a i q:=Rat.mul_pos hc' ha
  grind
 have hlt:d.bas i<d.bas p:=by omega
 have c3:=neg_of hlt (bas_lt hb hi)
 have c4:0<d.a i q:=by
  rcases lt_or_le 0 (d.a i q) with h | h
  ·exact h
  ·exfalso
   have:0≤(- cv d' (d.bas i))*(- d.a i q):=Rat.mul_nonneg (by grind) (by grind)
   grind
 have:=(hrat i hi c4).2 (by rw[h2,hp0]; grind)
 omega
structure Run (D:Nat→Dict) (pp qq:Nat→Nat) (K N:Nat):Prop where
 bij:Bij (D 0) N
 feas:feas (D 0)
 step:∀ k,k<K→Bland (D k) (pp k) (qq k)∧D (k+1)=pivot (D k) (pp k) (qq k)
section
variable {D:Nat→Dict} {pp qq:Nat→Nat} {K N:Nat} (h:Run D pp qq K N)
include h
theorem Run.bijs:∀ k,k≤K→Bij (D k) N
 | 0,_=>h.bij
 | k+1,hk=>by
  obtain ⟨h1,h2⟩:=h.step k (by omega)
  rw[h2]
  exact pivot_bij h1.1 h1.2.1 (Run.bijs k (by omega))
theorem Run.feass:∀ k,k≤K→LP.feas (D k)
 | 0,_=>h.feas
 | k+1,hk=>by
  obtain ⟨h1,h2⟩:=h.step k (by omega)
  rw[h2]
  exact h1.feas (Run.feass k (by omega))
theorem Run.same {i:Nat} {x:Nat→Rat}:∀ j,i≤j→j≤K→((sol (D i) x↔sol (D j) x)∧(sol (D i) x→obj (D i) x=obj (D j) x)):=by
 intro j hij
 induction j with
 | zero =>
   intro _; have:i=0:=by omega
   subst this; exact ⟨Iff.rfl,fun _=>rfl⟩
 | succ j ih =>
  intro hj
  by_cases e:i=j+1
  ·subst e; exact ⟨Iff.rfl,fun _=>rfl⟩
  ·obtain ⟨g1,g2⟩:=ih (by omega) (by omega)
   obtain ⟨h1,h2⟩:=h.step j (by omega)
   have ha:(D j).a (pp j) (qq j)≠0:=by have:=h1.2.2.2.2.1; grind
   rw[h2]
   exact ⟨g1.trans (sol_pivot_iff h1.1 h1.2.1 ha).symm,fun hx=>(g2 hx).trans (obj_pivot h1.1 h1.2.1 ha (g1.1 hx)).symm⟩
theorem Run.v_le {i:Nat}:∀ j,i≤j→j≤K→(D i).v≤(D j).v:=by
 intro j hij
 induction j with
 | zero =>
   intro _; have:i=0:=by omega
   subst this; grind
 | succ j ih =>
  intro hj
  by_cases e:i=j+1
  ·subst e; grind
  ·have g:=ih (by omega) (by omega)
   obtain ⟨h1,h2⟩:=h.step j (by omega)
   have:=h1.v_le (h.feass j (by omega))
   rw[← h2] at this
   grind
abbrev en (D:Nat→Dict) (qq:Nat→Nat) (m:Nat):Nat:=(D m).fre (qq m)
abbrev lv (D:Nat→Dict) (pp:Nat→Nat) (m:Nat):Nat:=(D m).bas (pp m)
theorem Run.next {m k:Nat} (hm:m<K):inB (D (m+1)) k↔(k=en D qq m∨(inB (D m) k∧k≠lv D pp m)):=by
 obtain ⟨h1,h2⟩:=h.step m hm
 have hb:=h.bijs m (by omega)
 rw[h2]
 constructor
 ·rintro ⟨i,hi,e⟩
  simp only[pivot,upd] at hi e
  by_cases hip:i=pp m
  ·rw[if_pos hip] at e; exact .inl e.symm
  ·rw[if_neg hip] at e
   refine .inr ⟨⟨i,hi,e⟩,fun e2=>hip (bas_inj hb hi h1.1 (e.trans e2))⟩
 ·rintro (rfl | ⟨⟨i,hi,rfl⟩,hne⟩)
  ·exact ⟨pp m,h1.1,by simp[pivot,upd]⟩
  ·refine ⟨i,hi,?_⟩
   have:i≠pp m:=fun e=>hne (by rw[e])
   simp[pivot,upd,this]
theorem Run.en_free {m:Nat} (hm:m<K):¬ inB (D m) (en D qq m):=not_inB_fre (h.bijs m (by omega)) (h.step m hm).1.2.1
omit h in
theorem Run.lv_basic {m:Nat} (h:Run D pp qq K N) (hm:m<K):inB (D m) (lv D pp m):=⟨pp m,(h.step m hm).1.1,rfl⟩
theorem Run.stay_free {k i j:Nat} (hj:j≤K) (hne:∀ m,i≤m→m<j→en D qq m≠k):∀ x y,i≤x→x≤y→y≤j→¬ inB (D x) k→¬ inB (D y) k:=by
 intro x y hx hxy
 induction y with
 | zero =>
   intro _ hf; have:x=0:=by omega
   subst this; exact hf
 | succ y ih =>
  intro hy hf
  by_cases e:x=y+1
  ·subst e; exact hf
  ·have g:=ih (by omega) (by omega) hf
   rw[h.next (by omega)]
   rintro (e2 | ⟨e2,_⟩)
   ·exact hne y (by omega) (by omega) e2.symm
   ·exact g e2
theorem Run.stay_basic {k i j:Nat} (hj:j≤K) (hne:∀ m,i≤m→m<j→lv D pp m≠k):∀ x y,i≤x→x≤y→y≤j→inB (D x) k→inB (D y) k:=by
 intro x y hx hxy
 induction y with
 | zero =>
   intro _ hf; have:x=0:=by omega
   subst this; exact hf
 | succ y ih =>
  intro hy hf
  by_cases e:x=y+1
  ·subst e; exact hf
  ·have g:=ih (by omega) (by omega) hf
   rw[h.next (by omega)]
   exact .inr ⟨g,fun e2=>hne y (by omega) (by omega) e2.symm⟩
theorem Run.enters {k i j x y:Nat} (hj:j≤K) (hij:inB (D i) k↔inB (D j) k) (hx:i≤x∧x≤j) (hy:i≤y∧y≤j) (h1:inB (D x) k) (h2:¬ inB (D y) k):∃ m,i≤m∧m<j∧en D qq m=k:=by
 apply Classical.byContradiction
 intro hno
 have hne:∀ m,i≤m→m<j→en D qq m≠k:=fun m a b e=>hno ⟨m,a,b,e⟩
 have f1:=h.stay_free hj hne y j hy.1 hy.2 (Nat.le_refl _) h2
 have f2:¬ inB (D i) k:=fun e=>f1 (hij.1 e)
 exact h.stay_free hj hne i x (Nat.le_refl _) hx.1 hx.2 f2 h1
theorem Run.leaves {k i j x y:Nat} (hj:j≤K) (hij:inB (D i) k↔inB (D j) k) (hx:i≤x∧x≤j) (hy:i≤y∧y≤j) (h1:inB (D x) k) (h2:¬ inB (D y) k):∃ m,i≤m∧m<j∧lv D pp m=k:=by
 apply Classical.byContradiction
 intro hno
 have hne:∀ m,i≤m→m<j→lv D pp m≠k:=fun m a b e=>hno ⟨m,a,b,e⟩
 have f1:=h.stay_basic hj hne x j hx.1 hx.2 (Nat.le_refl _) h1
 have f2:inB (D i) k:=hij.2 f1
 exact h2 (h.stay_basic hj hne i y (Nat.le_refl _) hy.1 hy.2 f2)
omit h in
theorem exists_max (f:Nat→Nat) (i:Nat):∀ j,i<j→∃ m,i≤m∧m<j∧∀ m',i≤m'→m'<j→f m'≤f m:=by
 intro j
 induction j with
 | zero=>intro hj; omega
 | succ j ih =>
  intro hj
  by_cases e:i=j
  ·subst e; exact ⟨i,Nat.le_refl _,by omega,fun m' a b=>by
    have:m'=i:=by omega
    rw[this]
    exact Nat.le_refl _⟩
  ·obtain ⟨m,a,b,g⟩:=ih (by omega)
   by_cases hlt:f m≤f j
   ·refine ⟨j,by omega,by omega,fun m' a' b'=>?_⟩
    by_cases e2:m'=j
    ·rw[e2]; exact Nat.le_refl _
    ·exact Nat.le_trans (g m' a' (by omega)) hlt
   ·refine ⟨m,a,by omega,fun m' a' b'=>?_⟩
    by_cases e2:m'=j
    ·rw[e2]; omega
    ·exact g m' a' (by omega)
theorem Run.no_repeat {i j:Nat} (hij:i<j) (hj:j≤K) (hB:∀ k,inB (D i) k↔inB (D j) k):False:=by
 have bi:=h.bijs i (by omega)
 have bj:=h.bijs j hj
 have hvij:(D i).v=(D j).v:=by
  have s1:=vl_sol bi
  have s2:=(h.same j (by omega) hj (i:=i)).2 s1
  rw[vl_obj bi] at s2
  rw[s2]
  unfold obj
  rw[sumR_zero fun l hl=>by rw[vl_fre fun e=>not_inB_fre bj hl ((hB _).1 e)]; grind]
  grind
 have hv:∀ m,i≤m→m≤j→(D m).v=(D i).v:=fun m a b=>by
  have g1:=h.v_le m a (by omega)
  have g2:=h.v_le j b hj
  grind
 have hdeg:∀ m,i≤m→m<j→(D m).b (pp m)=0:=fun m a b=>by
  obtain ⟨h1,h2⟩:=h.step m (by omega)
  apply h1.v_eq
  rw[← h2,hv (m+1) (by omega) (by omega),hv m a (by omega)]
 have hvl:∀ k m,i≤m→m≤j→vl (D m) k=vl (D i) k:=fun k m a=>by
  induction m with
  | zero =>
    intro _; have:i=0:=by omega
    rw[this]
  | succ m ih =>
   intro b
   by_cases e:i=m+1
   ·rw[e]
   ·rw[(h.step m (by omega)).2,vl_deg (hdeg m (by omega) (by omega)),ih (by omega) (by omega)]
 obtain ⟨e,e1,e2,emax⟩:=exists_max (en D qq) i j hij
 have hfr:=h.en_free (m:=e) (by omega)
 have hin:inB (D (e+1)) (en D qq e):=(h.next (by omega)).2 (.inl rfl)
 obtain ⟨l,l1,l2,hl⟩:=h.leaves hj (hB (en D qq e)) (x:=e+1) (y:=e) ⟨by omega,by omega⟩ ⟨by omega,by omega⟩ hin hfr
 have hBl:=(h.step l (by omega)).1
 have hBe:=(h.step e (by omega)).1
 have hobj:∀ x,sol (D l) x→obj (D l) x=obj (D e) x:=fun x hx=>by
  rcases Nat.le_total l e with hle | hle
  ·exact (h.same e hle (by omega) (i:=l)).2 hx
  ·exact ((h.same l hle (by omega) (i:=e)).2 ((h.same l hle (by omega) (i:=e)).1.2 hx)).symm
 refine core (h.bijs l (by omega)) (h.bijs e (by omega)) hobj (by rw[hv l l1 (by omega),hv e e1 (by omega)]) hBl hBe.2.1 hl.symm hBe.2.2.1 hBe.2.2.2.1 ?_ ?_ (hdeg l l1 l2) (h.feass l (by omega))
 ·have g:=emax l l1 l2
  have hne:en D qq l≠en D qq e:=fun e3=>by
   have:=h.en_free (m:=l) (by omega)
   rw[e3,← hl] at this
   exact this (h.lv_basic (by omega))
  rw[show (D l).bas (pp l)=en D qq e from hl]
  simp only[en] at g hne ⊢
  omega
 ·intro k hk1 hk2
  obtain ⟨m,m1,m2,rfl⟩:=h.enters hj (hB k) (x:=l) (y:=e) ⟨l1,by omega⟩ ⟨e1,by omega⟩ hk1 hk2
  rw[show (D l).bas (pp l)=en D qq e from hl]
  refine ⟨emax m m1 m2,?_⟩
  rw[hvl _ l l1 (by omega),← hvl _ e e1 (by omega)]
  exact vl_fre hk2
end
def code (d:Dict):Nat→Nat
 | 0=>0
 | n+1=>2*code d n+(if (List.range d.r).any (fun i=>d.bas i == n)=true then 1 else 0)
theorem any_inB {d:Dict} {n:Nat}:(List.range d.r).any (fun i=>d.bas i == n)=true↔inB d n:=by
 simp[inB]
theorem code_lt {d:Dict}:∀ n,code d n<2^n
 | 0=>by simp[code]
 | n+1=>by have:=code_lt (d:=d) n; simp only[code,Nat.pow_succ]; split<;>omega
theorem code_inj {d d':Dict}:∀ n,code d n=code d' n→∀ k,k<n→(inB d k↔inB d' k)
 | 0,_,k,hk=>by omega
 | n+1,he,k,hk=>by
  simp only[code] at he
  have h1:code d n=code d' n:=by split at he<;>split at he<;>omega
  by_cases e:k=n
  ·subst e
   rw[← any_inB,← any_inB]
   rw[h1] at he
   cases h2:(List.range d.r).any (fun i=>d.bas i == k)<;>cases h3:(List.range d'.r).any (fun i=>d'.bas i == k)<;>simp only[h2,h3,Bool.false_eq_true,if_true,if_false] at he ⊢<;>omega
  ·exact code_inj n h1 k (by omega)
theorem pigeon:∀ (M K:Nat) (f:Nat→Nat),(∀ k,k<K→f k<M)→(∀ i j,i<j→j<K→f i≠f j)→K≤M:=by
 intro M
 induction M with
 | zero=>intro K f h _; rcases K with _ | K; exact Nat.le_refl _; exact absurd (h 0 (by omega)) (by omega)
 | succ M ih =>
  intro K f h hne
  rcases K with _ | K
  ·omega
  ·-- the last one is moved out of the way
   have:K≤M:=by
    refine ih K (fun k=>if f k=M then f K else f k) (fun k hk=>?_) (fun i j hij hj=>?_)
    ·have h1:=h k (by omega)
     have h2:=h K (by omega)
     have h3:=hne k K hk (by omega)
     by_cases e:f k=M
     ·simp only[e,if_true]; omega
     ·simp only[e,if_false]; omega
    ·have g1:=hne i j hij (by omega)
     have g2:=hne i K (by omega) (by omega)
     have g3:=hne j K hj (by omega)
     by_cases e1:f i=M<;>by_cases e2:f j=M<;>simp only[e1,e2,if_true,if_false]<;>omega
   omega
theorem Run.le {D:Nat→Dict} {pp qq:Nat→Nat} {K N:Nat} (h:Run D pp qq K N):K<2^N:=by
 have:=pigeon (2^N) (K+1) (fun k=>code (D k) N) (fun k _=>code_lt N) (fun i j hij hj e=>by
  refine h.no_repeat hij (by omega) fun k=>?_
  by_cases hk:k<N
  ·exact code_inj N e k hk
  ·constructor
   ·rintro ⟨i',hi',rfl⟩; exact absurd (bas_lt (h.bijs i (by omega)) hi') hk
   ·rintro ⟨i',hi',rfl⟩; exact absurd (bas_lt (h.bijs j (by omega)) hi') hk)
 omega
end Go.LP

namespace Go.LP
def sz (K:Nat) (q:Rat):Prop:=q.num.natAbs≤2^K∧q.den≤2^K
theorem sz_mono {K L:Nat} {q:Rat} (h:sz K q) (hl:K≤L):sz L q :=
 ⟨Nat.le_trans h.1 (Nat.pow_le_pow_right (by omega) hl),Nat.le_trans h.2 (Nat.pow_le_pow_right (by omega) hl)⟩
theorem sz_norm {K:Nat} {n:Int} {d:Nat} (hd:d≠0) (h1:n.natAbs≤2^K) (h2:d≤2^K):sz K (Rat.normalize n d hd):=by
 rw[Rat.normalize_eq]
 exact ⟨Nat.le_trans (Int.natAbs_ediv_le_natAbs _ _) h1,Nat.le_trans (Nat.div_le_self _ _) h2⟩
theorem sz_zero {K:Nat}:sz K 0:=⟨Nat.zero_le _,Nat.pow_pos (by omega)⟩
theorem sz_one {K:Nat}:sz K 1:=⟨Nat.pow_pos (by omega),Nat.pow_pos (by omega)⟩
theorem sz_mul {K L:Nat} {a b:Rat} (ha:sz K a) (hb:sz L b):sz (K+L) (a*b):=by
 rw[Rat.mul_def]
 refine sz_norm _ ?_ ?_
 ·rw[Int.natAbs_mul,Nat.pow_add]; exact Nat.mul_le_mul ha.1 hb.1
 ·rw[Nat.pow_add]; exact Nat.mul_le_mul ha.2 hb.2
theorem sz_add {K L:Nat} {a b:Rat} (ha:sz K a) (hb:sz L b):sz (K+L+1) (a+b):=by
 rw[Rat.add_def]
 refine sz_norm _ ?_ ?_
 ·refine Nat.le_trans (Int.natAbs_add_le _ _) ?_
  rw[Int.natAbs_mul,Int.natAbs_mul,Nat.pow_succ,Nat.pow_add]
  have h1:=Nat.mul_le_mul ha.1 hb.2
  have h2:=Nat.mul_le_mul hb.1 ha.2
  rw[Nat.mul_comm (2^L)] at h2
  simp only[Int.natAbs_natCast]
  omega
 ·rw[Nat.pow_succ,Nat.pow_add]
  have:=Nat.mul_le_mul ha.2 hb.2
  omega
theorem sz_neg {K:Nat} {a:Rat} (ha:sz K a):sz K (-a):=by
 unfold sz
 rw[Rat.neg_num,Rat.neg_den,Int.natAbs_neg]
 exact ha
theorem sz_sub {K L:Nat} {a b:Rat} (ha:sz K a) (hb:sz L b):sz (K+L+1) (a-b):=by
 rw[Rat.sub_eq_add_neg]; exact sz_add ha (sz_neg hb)
theorem sz_inv {K:Nat} {a:Rat} (ha:sz K a):sz K (1/a):=by
 have:1/a=a⁻¹:=by grind
 rw[this]
 unfold sz
 rw[Rat.num_inv,Rat.den_inv]
 constructor
 ·rw[Int.natAbs_mul,Int.natAbs_natCast,Int.natAbs_sign]
  have:=ha.2
  split<;>omega
 ·split
  ·exact Nat.pow_pos (by omega)
  ·exact ha.1
structure szD (K:Nat) (d:Dict):Prop where
 a:∀ i j,i<d.r→j<d.c→sz K (d.a i j)
 b:∀ i,i<d.r→sz K (d.b i)
 cst:∀ j,j<d.c→sz K (d.cst j)
 v:sz K d.v
theorem szD_mono {K L:Nat} {d:Dict} (h:szD K d) (hl:K≤L):szD L d :=
 ⟨fun i j hi hj=>sz_mono (h.a i j hi hj) hl,fun i hi=>sz_mono (h.b i hi) hl,fun j hj=>sz_mono (h.cst j hj) hl,sz_mono h.v hl⟩
theorem szD_pivot {K:Nat} {d:Dict} {p q:Nat} (hp:p<d.r) (hq:q<d.c) (h:szD K d):szD (4*K+1) (pivot d p q):=by
 have hi:=sz_inv (h.a p q hp hq)
 constructor
 ·intro i j hir hjc
  simp only[pivot] at hir hjc ⊢
  split<;>split
  ·exact sz_mono hi (by omega)
  ·exact sz_mono (sz_mul (h.a p j hp hjc) hi) (by omega)
  ·exact sz_mono (sz_neg (sz_mul (h.a i q hir hq) hi)) (by omega)
  ·exact sz_mono (sz_sub (h.a i j hir hjc) (sz_mul (h.a i q hir hq) (sz_mul (h.a p j hp hjc) hi))) (by omega)
 ·intro i hir
  simp only[pivot] at hir ⊢
  split
  ·exact sz_mono (sz_mul (h.b p hp) hi) (by omega)
  ·exact sz_mono (sz_sub (h.b i hir) (sz_mul (h.a i q hir hq) (sz_mul (h.b p hp) hi))) (by omega)
 ·intro j hjc
  simp only[pivot] at hjc ⊢
  split
  ·exact sz_mono (sz_neg (sz_mul (h.cst q hq) hi)) (by omega)
  ·exact sz_mono (sz_sub (h.cst j hjc) (sz_mul (h.cst q hq) (sz_mul (h.a p j hp hjc) hi))) (by omega)
 ·simp only[pivot]
  exact sz_mono (sz_add h.v (sz_mul (h.cst q hq) (sz_mul (h.b p hp) hi))) (by omega)
structure Same (d e:Dict) (N:Nat):Prop where
 bd:Bij d N
 be:Bij e N
 sol:∀ x,sol d x↔sol e x
 obj:∀ x,LP.sol d x→obj d x=obj e x
theorem Same.refl {d:Dict} {N:Nat} (h:Bij d N):Same d d N:=⟨h,h,fun _=>Iff.rfl,fun _ _=>rfl⟩
theorem Same.symm {d e:Dict} {N:Nat} (h:Same d e N):Same e d N:=⟨h.be,h.bd,fun x=>(h.sol x).symm,fun x hx=>(h.obj x ((h.sol x).2 hx)).symm⟩
theorem Same.trans {d e f:Dict} {N:Nat} (h:Same d e N) (k:Same e f N):Same d f N :=
 ⟨h.bd,k.be,fun x=>(h.sol x).trans (k.sol x),fun x hx=>(h.obj x hx).trans (k.obj x ((h.sol x).1 hx))⟩
theorem Same.pivot {d:Dict} {N p q:Nat} (h:Bij d N) (hp:p<d.r) (hq:q<d.c) (ha:d.a p q≠0):Same (pivot d p q) d N :=
 ⟨pivot_bij hp hq h,h,fun _=>sol_pivot_iff hp hq ha,fun _ hx=>obj_pivot hp hq ha ((sol_pivot_iff hp hq ha).1 hx)⟩
def far (d:Dict) (f:Nat→Nat):Nat→Nat
 | 0=>0
 | n+1=>far d f n+(if (List.range d.r).any (fun i=>d.bas i == f n)=true then 0 else 1)
theorem far_le {d:Dict} {f:Nat→Nat}:∀ n,far d f n≤n
 | 0=>Nat.le_refl _
 | n+1=>by have:=far_le (d:=d) (f:=f) n; simp only[far]; split<;>omega
theorem far_zero {d:Dict} {f:Nat→Nat}:∀ n,far d f n=0→∀ i,i<n→inB d (f i)
 | 0,_,i,hi=>by omega
 | n+1,h,i,hi=>by
  simp only[far] at h
  by_cases e:i=n
  ·subst e
   apply any_inB.1
   cases h2:(List.range d.r).any (fun j=>d.bas j == f i)
   ·rw[h2] at h; simp at h
   ·rfl
  ·exact far_zero n (by omega) i (by omega)
theorem far_pos {d:Dict} {f:Nat→Nat}:∀ n,far d f n≠0→∃ i,i<n∧¬ inB d (f i)
 | 0,h=>absurd rfl h
 | n+1,h=>by
  by_cases e:inB d (f n)
  ·have h2:=any_inB.2 e
   simp only[far,h2,if_true] at h
   obtain ⟨i,hi,hf⟩:=far_pos n (by omega)
   exact ⟨i,by omega,hf⟩
  ·exact ⟨n,by omega,e⟩
theorem far_upd {d:Dict} {f:Nat→Nat} {p k:Nat} (hk:inB d k) (hp:¬ inB d (f p)):∀ n,far d (upd f p k) n+(if p<n then 1 else 0)=far d f n
 | 0=>by simp[far]
 | n+1=>by
  have ih:=far_upd (d:=d) (f:=f) (p:=p) (k:=k) hk hp n
  by_cases e:p=n
  ·subst e
   have h1:=any_inB.2 hk
   have h2:(List.range d.r).any (fun i=>d.bas i == f p)=false:=by
    cases h:(List.range d.r).any (fun i=>d.bas i == f p)
    ·rfl
    ·exact absurd (any_inB.1 h) hp
   simp only[far,upd,if_true,h1,h2,Bool.false_eq_true,if_false] at ih ⊢
   have:(upd f p k)=fun i=>if i=p then k else f i:=rfl
   simp only[Nat.lt_irrefl,if_false] at ih
   have e2:¬ p<p:=by omega
   simp only[show p<p+1 by omega,if_true]
   omega
  ·have e3:upd f p k n=f n:=by simp[upd,Ne.symm e]
   simp only[far,e3]
   have:(p<n+1)↔(p<n):=by omega
   simp only[this]
   omega
section
variable {d e:Dict} {N:Nat} (h:Same d e N)
include h
theorem Same.entries {K:Nat} (hB:∀ k,inB e k→inB d k) (hB2:∀ k,inB d k→inB e k) (hs:szD K d):szD K e:=by
 have hF:∀ j,j<e.c→∃ j',j'<d.c∧d.fre j'=e.fre j:=fun j hj=>free_of h.bd (fre_lt h.be hj) fun hin=>not_inB_fre h.be hj (hB2 _ hin)
 have hR:∀ i,i<e.r→∃ i',i'<d.r∧d.bas i'=e.bas i:=fun i hi=>hB _ ⟨i,hi,rfl⟩
 have hpt:∀ j j' y,j<e.c→j'<d.c→d.fre j'=e.fre j→∀ k,k<N→¬ inB d k→ptq e j y k=ptq d j' y k:=fun j j' y hj hj' ejj k hk hnk=>by
  obtain ⟨l,hl,rfl⟩:=free_of h.bd hk hnk
  obtain ⟨l',hl',el⟩:=free_of h.be hk fun hin=>hnk (hB _ hin)
  rw[ptq_fre h.bd hj' hl,← el,ptq_fre h.be hj hl']
  by_cases e1:l'=j
  ·subst e1
   rw[if_pos rfl,if_pos (fre_inj h.bd hl hj' (by rw[ejj,el]))]
  ·rw[if_neg e1,if_neg fun e2=>e1 (by subst e2; exact fre_inj h.be hl' hj (by rw[el,ejj]))]
 -- the point of 'e' is the point of 'd'
 have key:∀ j j' y i i',j<e.c→j'<d.c→d.fre j'=e.fre j→i<e.r→i'<d.r→d.bas i'=e.bas i→e.b i-e.a i j*y=d.b i'-d.a i' j'*y:=fun j j' y i i' hj hj' ejj hi hi' eii=>by
  have s1:=(h.sol _).2 (ptq_sol h.be hj (y:=y))
  have s2:=s1 i' hi'
  rw[eii,ptq_bas h.be hj hi] at s2
  rw[s2]
  rw[sumR_congr (g:=fun l=>d.a i' l*ptq d j' y (d.fre l)) fun l hl=>by rw[hpt j j' y hj hj' ejj _ (fre_lt h.bd hl) (not_inB_fre h.bd hl)]]
  rw[sumR_one hj' (fun l hl hne=>by rw[ptq_fre h.bd hj' hl,if_neg hne]; grind),ptq_fre h.bd hj' hj',if_pos rfl]
 have keyo:∀ j j' y,j<e.c→j'<d.c→d.fre j'=e.fre j→e.v+e.cst j*y=d.v+d.cst j'*y:=fun j j' y hj hj' ejj=>by
  have s1:=(h.sol _).2 (ptq_sol h.be hj (y:=y))
  have s2:=h.obj _ s1
  rw[ptq_obj h.be hj] at s2
  rw[← s2]
  unfold LP.obj
  rw[sumR_congr (g:=fun l=>d.cst l*ptq d j' y (d.fre l)) fun l hl=>by rw[hpt j j' y hj hj' ejj _ (fre_lt h.bd hl) (not_inB_fre h.bd hl)]]
  rw[sumR_one hj' (fun l hl hne=>by rw[ptq_fre h.bd hj' hl,if_neg hne]; grind),ptq_fre h.bd hj' hj',if_pos rfl]
 have hvl:∀ k,k<N→vl e k=0∨inB d k:=fun k hk=>by
  by_cases hin:inB e k
  ·exact .inr (hB _ hin)
  ·exact .inl (vl_fre hin)
 have svl:=(h.sol _).2 (vl_sol h.be)
 have z:∀ l,l<d.c→vl e (d.fre l)=0:=fun l hl=>vl_fre fun hin=>not_inB_fre h.bd hl (hB _ hin)
 constructor
 ·intro i j hi hj
  obtain ⟨i',hi',ei⟩:=hR i hi
  obtain ⟨j',hj',ej⟩:=hF j hj
  have k0:=key j j' 0 i i' hj hj' ej hi hi' ei
  have k1:=key j j' 1 i i' hj hj' ej hi hi' ei
  have:e.a i j=d.a i' j':=by grind
  rw[this]; exact hs.a i' j' hi' hj'
 ·intro i hi
  obtain ⟨i',hi',ei⟩:=hR i hi
  have s2:=svl i' hi'
  rw[ei,vl_bas h.be hi,sumR_zero fun l hl=>by rw[z l hl]; grind] at s2
  have:e.b i=d.b i':=by grind
  rw[this]; exact hs.b i' hi'
 ·intro j hj
  obtain ⟨j',hj',ej⟩:=hF j hj
  have k0:=keyo j j' 0 hj hj' ej
  have k1:=keyo j j' 1 hj hj' ej
  have:e.cst j=d.cst j':=by grind
  rw[this]; exact hs.cst j' hj'
 ·have s2:=h.obj _ svl
  rw[vl_obj h.be] at s2
  unfold LP.obj at s2
  rw[sumR_zero fun l hl=>by rw[z l hl]; grind] at s2
  have:e.v=d.v:=by grind
  rw[this]; exact hs.v
theorem Same.exchange {i:Nat} (hi:i<e.r) (hn:¬ inB d (e.bas i)):∃ j,j<e.c∧e.a i j≠0∧inB d (e.fre j):=by
 apply Classical.byContradiction
 intro hno
 obtain ⟨q,hq,eq⟩:=free_of h.bd (bas_lt h.be hi) hn
 have key:∀ y:Rat,y=e.b i:=fun y=>by
  have s1:=(h.sol _).1 (ptq_sol h.bd hq (y:=y)) i hi
  rw[← eq,ptq_fre h.bd hq hq,if_pos rfl] at s1
  rw[sumR_zero fun j hj=>?_] at s1
  ·grind
  ·by_cases ha:e.a i j=0
   ·rw[ha]; grind
   ·have hnf:¬ inB d (e.fre j):=fun hin=>hno ⟨j,hj,ha,hin⟩
    obtain ⟨l,hl,el⟩:=free_of h.bd (fre_lt h.be hj) hnf
    rw[← el,ptq_fre h.bd hq hl,if_neg fun e2=>fre_ne_bas h.be hi hj (by rw[← el,e2,eq])]
    grind
 have k0:=key 0
 have k1:=key 1
 grind
end
def grow (K:Nat):Nat→Nat
 | 0=>K
 | n+1=>4*grow K n+1
theorem grow_mono {K:Nat} {m n:Nat} (h:m≤n):grow K m≤grow K n:=by
 induction n with
 | zero =>
   have:m=0:=by omega
   rw[this]; exact Nat.le_refl _
 | succ n ih =>
  by_cases e:m=n+1
  ·rw[e]; exact Nat.le_refl _
  ·have:=ih (by omega)
   simp only[grow]; omega
theorem Same.size {d:Dict} {N K:Nat} (hs:szD K d):∀ n (e:Dict),Same d e N→e.r=d.r→e.c=d.c→far d e.bas e.r≤n→szD (grow K n) e:=by
 intro n
 induction n with
 | zero =>
  intro e h hr hc hn
  have hB:∀ k,inB e k→inB d k:=fun k ⟨i,hi,ek⟩=>by
   have:=far_zero _ (Nat.le_zero.1 hn) i hi
   rwa [ek] at this
  refine h.entries hB (fun k hk=>?_) hs
  -- as many basic variables in both
  classical
  apply Classical.byContradiction
  intro hnk
  have hkN:k<N:=by obtain ⟨i,hi,rfl⟩:=hk; exact bas_lt h.bd hi
  have c1:sumR N (fun x=>if inB d x then (1:Rat) else 0)=sumR d.r (fun _=>1):=by
   rw[h.bd fun x=>if inB d x then (1:Rat) else 0,sumR_zero fun j hj=>if_neg (not_inB_fre h.bd hj),sumR_congr (n:=d.r) (g:=fun _=>1) fun i hi=>if_pos ⟨i,hi,rfl⟩]
   grind
  have c2:sumR N (fun x=>if inB e x then (1:Rat) else 0)=sumR e.r (fun _=>1):=by
   rw[h.be fun x=>if inB e x then (1:Rat) else 0,sumR_zero fun j hj=>if_neg (not_inB_fre h.be hj),sumR_congr (n:=e.r) (g:=fun _=>1) fun i hi=>if_pos ⟨i,hi,rfl⟩]
   grind
  rw[hr,← c1] at c2
  rw[sumR_split hkN,sumR_split (f:=fun x=>if inB d x then (1:Rat) else 0) hkN,if_neg hnk,if_pos hk] at c2
  have:sumR N (fun j=>if j=k then 0 else if inB e j then (1:Rat) else 0)≤sumR N (fun j=>if j=k then 0 else if inB d j then (1:Rat) else 0):=sumR_le fun j _=>by
   by_cases e1:j=k
   ·rw[if_pos e1,if_pos e1]; grind
   ·rw[if_neg e1,if_neg e1]
    by_cases e2:inB e j
    ·rw[if_pos e2,if_pos (hB _ e2)]; grind
    ·rw[if_neg e2]; split<;>grind
  grind
 | succ n ih =>
  intro e h hr hc hn
  by_cases h0:far d e.bas e.r≤n
  ·exact szD_mono (ih e h hr hc h0) (grow_mono (by omega))
  ·obtain ⟨i,hi,hni⟩:=far_pos e.r (by omega:far d e.bas e.r≠0)
   obtain ⟨j,hj,ha,hin⟩:=h.exchange hi hni
   have hS:=h.trans (Same.pivot h.be hi hj ha).symm
   have hfar:=far_upd (f:=e.bas) hin hni e.r
   rw[if_pos hi] at hfar
   have:=ih (LP.pivot e i j) hS hr hc (by simp only[LP.pivot]; omega)
   have h2:=szD_pivot (p:=i) (q:=j) (d:=LP.pivot e i j) hi hj this
   rwa [pivot_pivot ha] at h2
theorem Same.size_r {d e:Dict} {N K:Nat} (hs:szD K d) (h:Same d e N) (hr:e.r=d.r) (hc:e.c=d.c):szD (grow K d.r) e :=
 Same.size hs d.r e h hr hc (by rw[hr]; exact far_le _)
end Go.LP

namespace Go.LP
theorem sumR_app (n m:Nat) (g:Nat→Rat):sumR (n+m) g=sumR n g+sumR m (fun i=>g (n+i)):=by
 induction m with
 | zero=>simp only[Nat.add_zero,sumR]; grind
 | succ m ih=>rw[← Nat.add_assoc]; simp only[sumR]; rw[ih]; grind
section
variable (n m:Nat) (A:Nat→Nat→Rat) (bb gg:Nat→Rat)
def dG:Dict:=⟨m,n,A,bb,gg,0,fun i=>n+i,fun j=>j⟩
def dA:Dict:=⟨m,n+1,fun i j=>if j<n then A i j else -1,bb,fun j=>if j<n then 0 else -1,0,fun i=>n+i,fun j=>if j<n then j else n+m⟩
def xu (u:Nat→Rat) (k:Nat):Rat:=if k<n then u k else bb (k-n)-sumR n fun j=>A (k-n) j*u j
end
section
variable {n m:Nat} {A:Nat→Nat→Rat} {bb gg:Nat→Rat}
theorem dG_bij:Bij (dG n m A bb gg) (n+m):=fun g=>sumR_app n m g
theorem dA_bij:Bij (dA n m A bb) (n+m+1):=fun g=>by
 simp only[dA,sumR]
 rw[sumR_app,if_neg (Nat.lt_irrefl n),sumR_congr (n:=n) (f:=fun j=>g (if j<n then j else n+m)) (g:=g) fun i hi=>by rw[if_pos hi]]
 grind
theorem xu_lt {u:Nat→Rat} {k:Nat} (h:k<n):xu n A bb u k=u k:=if_pos h
theorem xu_ge {u:Nat→Rat} {i:Nat}:xu n A bb u (n+i)=bb i-sumR n fun j=>A i j*u j:=by
 unfold xu
 rw[if_neg (by omega),Nat.add_sub_cancel_left]
theorem xu_sol {u:Nat→Rat}:sol (dG n m A bb gg) (xu n A bb u):=by
 intro i hi
 simp only[dG] at hi ⊢
 rw[xu_ge]
 congr 1
 exact sumR_congr fun j hj=>by rw[xu_lt hj]
theorem sol_dG {x:Nat→Rat} (h:sol (dG n m A bb gg) x) {i:Nat} (hi:i<m):x (n+i)=bb i-sumR n fun j=>A i j*x j:=h i hi
theorem obj_dG {x:Nat→Rat}:obj (dG n m A bb gg) x=sumR n fun j=>gg j*x j:=by
 simp only[obj,dG]; grind
theorem dual_eq {d:Dict} (h:Same d (dG n m A bb gg) (n+m)) (u:Nat→Rat):sumR n (fun j=>gg j*u j)=d.v+sumR n (fun k=>cv d k*u k)+sumR m (fun i=>cv d (n+i)*(bb i-sumR n fun j=>A i j*u j)):=by
 have h1:=h.obj _ ((h.sol _).2 (xu_sol (u:=u)))
 rw[obj_dG,obj_cv h.bd,sumR_app] at h1
 rw[sumR_congr (n:=n) (f:=fun j=>gg j*xu n A bb u j) (g:=fun j=>gg j*u j) fun j hj=>by rw[xu_lt hj],
  sumR_congr (n:=n) (f:=fun k=>cv d k*xu n A bb u k) (g:=fun k=>cv d k*u k) fun j hj=>by rw[xu_lt hj],
  sumR_congr (n:=m) (g:=fun i=>cv d (n+i)*(bb i-sumR n fun j=>A i j*u j)) fun i hi=>by rw[xu_ge]] at h1
 grind
theorem dual_v {d:Dict} (h:Same d (dG n m A bb gg) (n+m)):sumR m (fun i=>-cv d (n+i)*bb i)=d.v:=by
 have h1:=dual_eq h fun _=>0
 rw[sumR_zero fun j _=>by grind,sumR_zero (n:=n) (f:=fun k=>cv d k*0) fun j _=>by grind,
  sumR_congr (n:=m) (g:=fun i=>cv d (n+i)*bb i) fun i _=>by rw[sumR_zero fun j _=>by grind]; grind] at h1
 rw[sumR_congr (g:=fun i=>-(cv d (n+i)*bb i)) fun i _=>by grind,sumR_neg]
 grind
theorem dual_col {d:Dict} (h:Same d (dG n m A bb gg) (n+m)) {j:Nat} (hj:j<n):sumR m (fun i=>-cv d (n+i)*A i j)=gg j-cv d j:=by
 have h1:=dual_eq h fun k=>if k=j then 1 else 0
 have h2:=dual_v h
 rw[sumR_one hj fun i _ hne=>by rw[if_neg hne]; grind,sumR_one (f:=fun k=>cv d k*if k=j then 1 else 0) hj fun i _ hne=>by rw[if_neg hne]; grind,
  sumR_congr (n:=m) (g:=fun i=>-(-cv d (n+i)*bb i)+-cv d (n+i)*A i j) fun i _=>by
   rw[sumR_one hj fun l _ hne=>by rw[if_neg hne]; grind]
   rw[if_pos rfl]; grind,sumR_add,sumR_neg] at h1
 simp only[if_true] at h1
 grind
theorem vl_nonneg {d:Dict} {N:Nat} (_hb:Bij d N) (hf:feas d) (k:Nat):0≤vl d k:=by
 refine sumR_nonneg fun i hi=>?_
 split
 ·exact hf i hi
 ·grind
theorem cv_nonpos {d:Dict} (hc:∀ j,j<d.c→d.cst j≤0) (k:Nat):cv d k≤0:=by
 have:0≤sumR d.c fun j=>-(if d.fre j=k then d.cst j else 0):=sumR_nonneg fun j hj=>by
  split
  ·have:=hc j hj; grind
  ·grind
 rw[sumR_neg] at this
 unfold cv
 grind
theorem slack_nonneg {x:Nat→Rat} (h:sol (dG n m A bb gg) x) (hx:∀ k,0≤x k) {i:Nat} (hi:i<m):sumR n (fun j=>A i j*x j)≤bb i:=by
 have:=sol_dG h hi
 have:=hx (n+i)
 grind
structure Opt (n m:Nat) (A:Nat→Nat→Rat) (bb gg:Nat→Rat) (x y:Nat→Rat) (v:Rat):Prop where
 x0:∀ k,0≤x k
 row:∀ i,i<m→sumR n (fun j=>A i j*x j)≤bb i
 y0:∀ i,0≤y i
 col:∀ j,j<n→gg j≤sumR m (fun i=>y i*A i j)
 vx:sumR n (fun j=>gg j*x j)=v
 vy:sumR m (fun i=>y i*bb i)=v
theorem opt_of {d:Dict} (h:Same d (dG n m A bb gg) (n+m)) (hf:feas d) (hc:∀ j,j<d.c→d.cst j≤0):Opt n m A bb gg (vl d) (fun i=>-cv d (n+i)) d.v:=by
 have s1:=(h.sol _).1 (vl_sol h.bd)
 refine ⟨vl_nonneg h.bd hf,fun i hi=>slack_nonneg s1 (vl_nonneg h.bd hf) hi,fun i=>by have:=cv_nonpos hc (n+i); grind,fun j hj=>?_,?_,dual_v h⟩
 ·rw[dual_col h hj]; have:=cv_nonpos hc j; grind
 ·have:=h.obj _ (vl_sol h.bd)
  rw[vl_obj h.bd,obj_dG] at this
  exact this.symm
def rayq (d:Dict) (q k:Nat):Rat:=sumR d.r (fun i=>if d.bas i=k then-d.a i q else 0)+(if d.fre q=k then 1 else 0)
theorem rayq_eq {d:Dict} {q k:Nat}:rayq d q k=ptq d q 1 k-ptq d q 0 k:=by
 unfold rayq ptq
 rw[sumR_congr (g:=fun i=>(if d.bas i=k then d.b i-d.a i q*1 else 0)-(if d.bas i=k then d.b i-d.a i q*0 else 0)) fun i _=>by split<;>grind,sumR_sub]
 split<;>grind
structure Unb (n m:Nat) (A:Nat→Nat→Rat) (bb gg:Nat→Rat) (x ray:Nat→Rat):Prop where
 x0:∀ k,0≤x k
 row:∀ i,i<m→sumR n (fun j=>A i j*x j)≤bb i
 r0:∀ k,0≤ray k
 rr:∀ i,i<m→sumR n (fun j=>A i j*ray j)≤0
 up:0<sumR n (fun j=>gg j*ray j)
theorem unb_of {d:Dict} (h:Same d (dG n m A bb gg) (n+m)) (hf:feas d) {q:Nat} (hq:q<d.c) (hc:0<d.cst q) (ha:∀ i,i<d.r→d.a i q≤0):Unb n m A bb gg (vl d) (rayq d q):=by
 have s0:=(h.sol _).1 (vl_sol h.bd)
 have s1:=(h.sol _).1 (ptq_sol h.bd hq (y:=1))
 have s2:=(h.sol _).1 (ptq_sol h.bd hq (y:=0))
 have r0:∀ k,0≤rayq d q k:=fun k=>by
  unfold rayq
  have:0≤sumR d.r (fun i=>if d.bas i=k then-d.a i q else 0):=sumR_nonneg fun i hi=>by
   split
   ·have:=ha i hi; grind
   ·grind
  split<;>grind
 refine ⟨vl_nonneg h.bd hf,fun i hi=>slack_nonneg s0 (vl_nonneg h.bd hf) hi,r0,fun i hi=>?_,?_⟩
 ·have e1:=sol_dG s1 hi
  have e2:=sol_dG s2 hi
  have e3:=r0 (n+i)
  rw[rayq_eq,e1,e2] at e3
  rw[sumR_congr (g:=fun j=>A i j*ptq d q 1 j-A i j*ptq d q 0 j) fun j _=>by rw[rayq_eq]; grind,sumR_sub]
  grind
 ·have e1:=h.obj _ (ptq_sol h.bd hq (y:=1))
  have e2:=h.obj _ (ptq_sol h.bd hq (y:=0))
  rw[ptq_obj h.bd hq,obj_dG] at e1 e2
  rw[sumR_congr (g:=fun j=>gg j*ptq d q 1 j-gg j*ptq d q 0 j) fun j _=>by rw[rayq_eq]; grind,sumR_sub]
  grind
theorem sol_dA {x:Nat→Rat} (h:sol (dA n m A bb) x) {i:Nat} (hi:i<m):x (n+i)=bb i-sumR n (fun j=>A i j*x j)+x (n+m):=by
 have:=h i hi
 simp only[dA,sumR] at this
 rw[if_neg (Nat.lt_irrefl n),if_neg (Nat.lt_irrefl n),sumR_congr (n:=n) (g:=fun j=>A i j*x j) fun j hj=>by rw[if_pos hj,if_pos hj]] at this
 grind
theorem sol_dA' {x:Nat→Rat} (h:∀ i,i<m→x (n+i)=bb i-sumR n (fun j=>A i j*x j)+x (n+m)):sol (dA n m A bb) x:=by
 intro i hi
 have:=h i hi
 simp only[dA,sumR]
 rw[if_neg (Nat.lt_irrefl n),if_neg (Nat.lt_irrefl n),sumR_congr (n:=n) (g:=fun j=>A i j*x j) fun j hj=>by rw[if_pos hj,if_pos hj]]
 grind
theorem obj_dA {x:Nat→Rat}:obj (dA n m A bb) x=- x (n+m):=by
 simp only[obj,dA,sumR]
 rw[if_neg (Nat.lt_irrefl n),if_neg (Nat.lt_irrefl n),sumR_zero fun j hj=>by rw[if_pos hj]; grind]
 grind
structure Inf (n m:Nat) (A:Nat→Nat→Rat) (bb:Nat→Rat) (y:Nat→Rat):Prop where
 y0:∀ i,0≤y i
 col:∀ j,j<n→0≤sumR m (fun i=>y i*A i j)
 vy:sumR m (fun i=>y i*bb i)<0
theorem inf_of {d:Dict} (h:Same d (dA n m A bb) (n+m+1)) (hc:∀ j,j<d.c→d.cst j≤0) (hv:d.v<0):Inf n m A bb (fun i=>-cv d (n+i)):=by
 have key:∀ u:Nat→Rat,0=d.v+sumR n (fun k=>cv d k*u k)+sumR m (fun i=>cv d (n+i)*(bb i-sumR n fun j=>A i j*u j)):=fun u=>by
  have hx:∀ i,i<m→(fun k=>if k=n+m then 0 else xu n A bb u k) (n+i)=bb i-sumR n (fun j=>A i j*(fun k=>if k=n+m then 0 else xu n A bb u k) j)+(fun k=>if k=n+m then 0 else xu n A bb u k) (n+m):=fun i hi=>by
   simp only[if_true]
   rw[if_neg (by omega),xu_ge,sumR_congr (n:=n) (f:=fun j=>A i j*if j=n+m then 0 else xu n A bb u j) (g:=fun j=>A i j*u j) fun j hj=>by rw[if_neg (by omega),xu_lt hj]]
   grind
  have h1:=h.obj _ ((h.sol _).2 (sol_dA' (x:=fun k=>if k=n+m then 0 else xu n A bb u k) hx))
  rw[obj_dA,obj_cv h.bd] at h1
  simp only[sumR,if_true] at h1
  rw[sumR_app,sumR_congr (n:=n) (f:=fun k=>cv d k*if k=n+m then 0 else xu n A bb u k) (g:=fun k=>cv d k*u k) fun j hj=>by rw[if_neg (by omega),xu_lt hj],
   sumR_congr (n:=m) (g:=fun i=>cv d (n+i)*(bb i-sumR n fun j=>A i j*u j)) fun i hi=>by rw[if_neg (by omega),xu_ge]] at h1
  grind
 have hvy:sumR m (fun i=>-cv d (n+i)*bb i)=d.v:=by
  have h1:=key fun _=>0
  rw[sumR_zero (n:=n) (f:=fun k=>cv d k*0) fun j _=>by grind,
   sumR_congr (n:=m) (g:=fun i=>cv d (n+i)*bb i) fun i _=>by rw[sumR_zero fun j _=>by grind]; grind] at h1
  rw[sumR_congr (g:=fun i=>-(cv d (n+i)*bb i)) fun i _=>by grind,sumR_neg]
  grind
 refine ⟨fun i=>by have:=cv_nonpos hc (n+i); grind,fun j hj=>?_,by rw[hvy]; exact hv⟩
 have h1:=key fun k=>if k=j then 1 else 0
 rw[sumR_one (f:=fun k=>cv d k*if k=j then 1 else 0) hj fun i _ hne=>by rw[if_neg hne]; grind,
  sumR_congr (n:=m) (g:=fun i=>-(-cv d (n+i)*bb i)+-cv d (n+i)*A i j) fun i _=>by
   rw[sumR_one hj fun l _ hne=>by rw[if_neg hne]; grind]
   rw[if_pos rfl]; grind,sumR_add,sumR_neg] at h1
 simp only[if_true] at h1
 have:=cv_nonpos hc j
 grind
theorem weak {x y:Nat→Rat} (hx:∀ j,j<n→0≤x j) (hr:∀ i,i<m→sumR n (fun j=>A i j*x j)≤bb i) (hy:∀ i,i<m→0≤y i) (hc:∀ j,j<n→gg j≤sumR m (fun i=>y i*A i j)) :
  sumR n (fun j=>gg j*x j)≤sumR m (fun i=>y i*bb i):=by
 have h1:sumR n (fun j=>gg j*x j)≤sumR n (fun j=>sumR m (fun i=>y i*A i j)*x j):=sumR_le fun j hj=>by
  have:=Rat.mul_nonneg (show 0≤sumR m (fun i=>y i*A i j)-gg j by have:=hc j hj; grind) (hx j hj)
  grind
 have h2:sumR m (fun i=>y i*sumR n (fun j=>A i j*x j))≤sumR m (fun i=>y i*bb i):=sumR_le fun i hi=>by
  have:=Rat.mul_nonneg (hy i hi) (show 0≤bb i-sumR n (fun j=>A i j*x j) by have:=hr i hi; grind)
  grind
 have h3:sumR n (fun j=>sumR m (fun i=>y i*A i j)*x j)=sumR m (fun i=>y i*sumR n (fun j=>A i j*x j)):=by
  rw[sumR_congr (n:=n) (g:=fun j=>sumR m (fun i=>y i*A i j*x j)) fun j _=>by rw[sumR_mul'],sumR_comm]
  exact sumR_congr fun i _=>by rw[← sumR_mul]; exact sumR_congr fun j _=>by grind
 grind
end
end Go.LP

namespace Go.Proofs.Ytbgnkodhpbkdoaa
open Go Go.Am Go.Dig Go.LP
theorem len_of {K x:Nat} (h:x≤2^K):(digs x).length≤K/32+1:=digs_len_le.2 (by
 have:B^(K/32+1)=2^(32*(K/32+1)):=by rw[show B=2^32 from rfl,← Nat.pow_mul]
 rw[this]
 exact Nat.lt_of_le_of_lt h (Nat.pow_lt_pow_right (by omega) (by omega)))
theorem sz_len {K:Nat} {q:Rat} (h:sz K q):(digs q.num.natAbs).length≤K/32+1∧(digs q.den).length≤K/32+1:=⟨len_of h.1,len_of h.2⟩
theorem sg_not (s:Bool) (N:Nat):sg (!s) N=-sg s N:=by cases s<;>simp[sg]
theorem frac_num (q:Rat):mkRat (sg (decide (q.num<0)) q.num.natAbs) q.den=q:=by rw[sg_num,Rat.mkRat_self]
theorem neg_rat (q:Rat):fracO (!decide (q.num<0)) q.num.natAbs q.den=frac (-q):=by
 rw[fracO_rat q.den_nz,sg_not,← Rat.neg_mkRat,frac_num]
theorem int_rat (n:Int):fracO (decide (n<0)) n.natAbs 1=frac (n:Rat):=by
 rw[fracO_rat (by decide),sg_num]
 congr 1
 rw[← Rat.mkRat_self (n:Rat)]; rfl
theorem div_rat (p q:Rat) (h:q≠0):fracO (!(decide (p.num<0) == decide (q.num<0))) (p.num.natAbs*q.den) (p.den*q.num.natAbs)=frac (p/q):=by
 have hq:q.num.natAbs≠0:=fun e=>h (Rat.num_eq_zero.1 (by omega))
 have hd:p.den*q.num.natAbs≠0:=Nat.mul_ne_zero p.den_nz hq
 rw[fracO_rat hd]
 congr 1
 have e1:=sg_num p.num
 have e2:=sg_num q.num
 have e3:=frac_num p
 have e4:=frac_num q
 have hx:p/q=mkRat (sg (decide (p.num<0)) p.num.natAbs) p.den*(Rat.divInt (q.den:Int) (sg (decide (q.num<0)) q.num.natAbs)):=by
  rw[e3,e2,Rat.div_def,Rat.inv_def]
 rw[hx]
 generalize p.num.natAbs=x at *
 generalize q.num.natAbs=y at *
 generalize decide (p.num<0)=s at *
 generalize decide (q.num<0)=t at *
 have hy:(y:Int)≠0:=by omega
 cases t
 ·have:Rat.divInt (q.den:Int) (sg false y)=mkRat q.den y:=rfl
  rw[this,Rat.mkRat_mul_mkRat]
  congr 1
  cases s<;>simp[sg,Int.neg_mul]
 ·have:Rat.divInt (q.den:Int) (sg true y)=mkRat (-q.den) y:=by
   rw[show sg true y=-(y:Int) from rfl,Rat.divInt_neg']; rfl
  rw[this,Rat.mkRat_mul_mkRat]
  congr 1
  cases s<;>simp[sg,Int.neg_mul,Int.mul_neg]
section
variable {K:Nat} {p q:Rat} (hK:K≤137438953472) (hp:sz K p) (hq:sz K q)
include hK hp
theorem neg_frac:SoundCall Try.prog F_f_Neg [frac p] (frac (-p)):=by
 have h1:=sz_len hp
 rw[← neg_rat]
 exact neg_sound (by omega) (by omega) p.den_nz
include hq
theorem mul_frac:SoundCall Try.prog F_f_Mul [frac p,frac q] (frac (p*q)):=by
 have h1:=sz_len hp
 have h2:=sz_len hq
 rw[← mul_rat]
 exact mulF_sound (by omega) (by omega) (by omega) (by omega) p.den_nz q.den_nz
theorem add_frac:SoundCall Try.prog F_f_Add [frac p,frac q] (frac (p+q)):=by
 have h1:=sz_len hp
 have h2:=sz_len hq
 rw[← add_rat]
 exact addF_sound (by omega) (by omega) (by omega) (by omega) p.den_nz q.den_nz
theorem sub_frac:SoundCall Try.prog F_f_Sub [frac p,frac q] (frac (p-q)):=by
 have k1:=neg_frac hK hq
 have k2:=add_frac hK hp (sz_neg hq)
 rw[Rat.sub_eq_add_neg]
 obtain ⟨a,ha⟩:∃ a,a=p+-q:=⟨_,rfl⟩
 obtain ⟨b,hb⟩:∃ b,b=-q:=⟨_,rfl⟩
 rw[← ha] at k2 ⊢
 rw[← hb] at k1 k2
 refine sound' t_f_Sub (by simp) ?_
 simp[c_f_Sub]
 refine eCall_i k1 (by simp) (by simp) ?_
 simp
 refine eCall_i k2 (by simp) (by simp) ?_
 simp[r_f_Sub]
theorem div_frac (h:q≠0):SoundCall Try.prog F_f_Div [frac p,frac q] (.tuple [frac (p/q),iv 0]):=by
 have h1:=sz_len hp
 have h2:=sz_len hq
 have hq0:q.num.natAbs≠0:=fun e=>h (Rat.num_eq_zero.1 (by omega))
 rw[← div_rat p q h]
 have l1:=mul_len h1.1 h2.2
 have l2:=mul_len h1.2 h2.1
 have k1:=mul_sound (m1:=.plain) (m2:=.plain) (ok_digs p.num.natAbs) (ok_digs q.den) (by omega) (by omega) (by omega) rfl rfl
 have k2:=mul_sound (m1:=.plain) (m2:=.plain) (ok_digs p.den) (ok_digs q.num.natAbs) (by omega) (by omega) (by omega) rfl rfl
 simp only[val_digs] at k1 k2
 have k:=make_sound (neg:=!(decide (p.num<0) == decide (q.num<0))) (N:=p.num.natAbs*q.den) (D:=p.den*q.num.natAbs) (by omega) (by omega) (Nat.mul_ne_zero p.den_nz hq0)
 unfold frac
 generalize p.num.natAbs=a at *
 generalize q.num.natAbs=b at *
 generalize decide (p.num<0)=s at *
 generalize decide (q.num<0)=t at *
 unfold fracO at *
 generalize a*q.den/Nat.gcd (a*q.den) (p.den*b)=x at *
 generalize p.den*b/Nat.gcd (a*q.den) (p.den*b)=y at *
 refine sound' t_f_Div (by simp) ?_
 simp[c_f_Div,eBin_neq_bool ub_bool]
 refine eCall_i k1 (by simp) (by simp) ?_
 simp
 refine eCall_i k2 (by simp) (by simp) ?_
 simp
 refine eCall_i k (by simp) (by simp) ?_
 simp[r_f_Div]
end
end Go.Proofs.Ytbgnkodhpbkdoaa
